/- Texts of this claim, joined: NatB, NatC, NatD, NatL, RPlain, NatF, NatG, NatH, NatE. -/
import Derived.Test.YtajjgfiojlagmaaGreatDoorMO02
import Derived.Lib.BitFns
import GoSem.Op.String

/- Numbers as bytes: lengths, order, bits: plain laws. -/
namespace Go.Proofs.YtajjgfiojlagmaaGreatDoor
namespace Num

theorem nb_size (n : Nat) : (nb n).size = nl n := by simp [nb, nl, mkStr_size]
theorem bts_nb (n : Nat) : bts (nb n) = digitsOf 256 n := bts_mkStr (digitsOf_lt (by omega) n)
theorem nb_get (n k : Nat) (h : k < (nb n).size) : ((nb n)[k]).toNat = (digitsOf 256 n).getD k 0 := by
  rw [← bts_getD _ _ h, bts_nb]
theorem nb_inj {a b : Nat} (h : nb a = nb b) : a = b := by
  have := congrArg bts h
  rw [bts_nb, bts_nb] at this
  exact digitsOf_inj (by omega) this
theorem natV_zero : natV 0 = .agg #[.string { data := #[] }] := rfl
theorem nl_eq_zero {n : Nat} : nl n = 0 ↔ n = 0 := by
  unfold nl
  rw [List.length_eq_zero_iff]; exact digitsOf_eq_nil (by omega)

theorem nl_le_of_lt {n k : Nat} (h : n < 256 ^ k) : nl n ≤ k := length_le_of_lt_pow (by omega) k n h
theorem lt_pow_nl (n : Nat) : n < 256 ^ nl n := lt_pow_length (by omega) n
theorem nl_mono {a b : Nat} (h : a ≤ b) : nl a ≤ nl b := nl_le_of_lt (Nat.lt_of_le_of_lt h (lt_pow_nl b))
theorem pow_le_of_nl {n k : Nat} (h : k < nl n) : 256 ^ k ≤ n := pow_le_of_length (by omega) n k h
theorem nl_mul (a b : Nat) : nl (a * b) ≤ nl a + nl b := by
  apply nl_le_of_lt
  rw [Nat.pow_add]
  exact Nat.mul_lt_mul'' (lt_pow_nl a) (lt_pow_nl b)
theorem nl_add (a b : Nat) : nl (a + b) ≤ max (nl a) (nl b) + 1 := by
  apply nl_le_of_lt
  have h1 : 256 ^ nl a ≤ 256 ^ max (nl a) (nl b) := Nat.pow_le_pow_right (by omega) (by omega)
  have h2 : 256 ^ nl b ≤ 256 ^ max (nl a) (nl b) := Nat.pow_le_pow_right (by omega) (by omega)
  have h3 := lt_pow_nl a
  have h4 := lt_pow_nl b
  rw [Nat.pow_succ]; omega
theorem dlen_le (n : Nat) : (digitsOf 10 n).length ≤ 3 * nl n := by
  apply length_le_of_lt_pow (by omega)
  have h1 := lt_pow_nl n
  have h2 : (256 : Nat) ^ nl n ≤ 1000 ^ nl n := Nat.pow_le_pow_left (by omega) _
  rw [Nat.pow_mul, show (10 : Nat) ^ 3 = 1000 by decide]
  omega

theorem wlen_le (n : Nat) : (digitsOf W n).length ≤ nl n := by
  apply length_le_of_lt_pow (by decide)
  have h1 := lt_pow_nl n
  have h2 : (256 : Nat) ^ nl n ≤ W ^ nl n := Nat.pow_le_pow_left (by decide) _
  omega

theorem digs_lt_of_top {B : Nat} (hB : 0 < B) {xs ys : List Nat} (hx : AllLt B xs) (hl : xs.length = ys.length) (i : Nat) (hi : i < xs.length)
    (hlt : xs.getD i 0 < ys.getD i 0) (heq : ∀ j, i < j → xs.getD j 0 = ys.getD j 0) : digs B xs < digs B ys := by
  have e1 : xs = xs.take i ++ xs[i] :: xs.drop (i + 1) := by rw [← List.drop_eq_getElem_cons hi, List.take_append_drop]
  have e2 : ys = ys.take i ++ ys[i]'(by omega) :: ys.drop (i + 1) := by rw [← List.drop_eq_getElem_cons (by omega), List.take_append_drop]
  have e3 : xs.drop (i + 1) = ys.drop (i + 1) := by
    apply List.ext_getElem
    · simp [hl]
    · intro j h1 h2
      simp only [List.length_drop] at h1 h2
      have := heq (i + 1 + j) (by omega)
      rw [List.getD_eq_getElem?_getD, List.getD_eq_getElem?_getD, List.getElem?_eq_getElem (by omega), List.getElem?_eq_getElem (by omega)] at this
      simpa using this
  have g1 : xs.getD i 0 = xs[i] := by simp [List.getD_eq_getElem?_getD, hi]
  have g2 : ys.getD i 0 = ys[i]'(by omega) := by simp [List.getD_eq_getElem?_getD, show i < ys.length by omega]
  rw [g1, g2] at hlt
  have h3 := digs_lt hB (hx.take i)
  rw [e1, e2, digs_append, digs_append, digs_cons, digs_cons, e3]
  have l1 : (xs.take i).length = i := by simp; omega
  have l2 : (ys.take i).length = i := by simp; omega
  rw [l1] at h3
  rw [l1, l2]
  have h4 : B ^ i * (xs[i] + 1 + B * digs B (ys.drop (i + 1))) ≤ B ^ i * (ys[i]'(by omega) + B * digs B (ys.drop (i + 1))) := Nat.mul_le_mul_left _ (by omega)
  have h5 : B ^ i * (xs[i] + 1 + B * digs B (ys.drop (i + 1))) = B ^ i * (xs[i] + B * digs B (ys.drop (i + 1))) + B ^ i := by
    rw [Nat.add_right_comm, Nat.mul_add (B ^ i) _ 1, Nat.mul_one]
  have h6 := Nat.zero_le (digs B (ys.take i))
  omega

theorem lt_of_top {a b : Nat} (hl : nl a = nl b) (i : Nat) (hi : i < nl a) (hlt : (digitsOf 256 a).getD i 0 < (digitsOf 256 b).getD i 0)
    (heq : ∀ j, i < j → (digitsOf 256 a).getD j 0 = (digitsOf 256 b).getD j 0) : a < b := by
  have := digs_lt_of_top (B := 256) (by omega) (digitsOf_lt (by omega) a) hl i hi hlt heq
  rwa [digs_digitsOf (by omega), digs_digitsOf (by omega)] at this

theorem eq_of_all {a b : Nat} (hl : nl a = nl b) (heq : ∀ j, (digitsOf 256 a).getD j 0 = (digitsOf 256 b).getD j 0) : a = b := by
  apply digitsOf_inj (B := 256) (by omega)
  apply List.ext_getElem hl
  intro i h1 h2
  have := heq i
  simpa [List.getD_eq_getElem?_getD, h1, h2] using this

theorem lt_of_nl {a b : Nat} (h : nl a < nl b) : a < b := Nat.lt_of_lt_of_le (lt_pow_nl a) (pow_le_of_nl h)

def cmpI (a b : Nat) : Int := if a < b then -1 else if a = b then 0 else 1
theorem cmpI_lt {a b : Nat} (h : a < b) : cmpI a b = -1 := by simp [cmpI, h]
theorem cmpI_eq (a : Nat) : cmpI a a = 0 := by simp [cmpI]
theorem cmpI_gt {a b : Nat} (h : b < a) : cmpI a b = 1 := by
  unfold cmpI; rw [if_neg (by omega), if_neg (by omega)]

/-! ### Bits -/
theorem bitLenAux_eq : ∀ (f x : Nat), x < 2 ^ f → Lib.bitLenAux f x = (digitsOf 2 x).length
  | 0, x, h => by obtain rfl : x = 0 := by simpa using h
                  rfl
  | f + 1, x, h => by
    unfold Lib.bitLenAux
    by_cases h0 : x = 0
    · subst h0; simp [digitsOf_zero]
    · rw [if_neg h0, digitsOf_pos (by omega) (by omega), bitLenAux_eq f (x / 2) (by rw [Nat.pow_succ] at h; omega)]
      simp; omega
theorem bitLen_eq (x : Nat) (h : x < 18446744073709551616) : Lib.bitLen x = (digitsOf 2 x).length := bitLenAux_eq 64 x h

def blen (n : Nat) : Nat := (digitsOf 2 n).length

theorem digs_take_succ {B : Nat} (l : List Nat) (k : Nat) (h : k < l.length) : digs B (l.take (k + 1)) = digs B (l.take k) + B ^ k * l.getD k 0 := by
  rw [List.take_succ_eq_append_getElem h, digs_snoc, List.length_take, Nat.min_eq_left (by omega)]
  simp [List.getD_eq_getElem?_getD, h]

end Num
end Go.Proofs.YtajjgfiojlagmaaGreatDoor

/- Carries and borrows along digits: plain laws. -/
namespace Go.Proofs.YtajjgfiojlagmaaGreatDoor
namespace Num

/-! ### Division by one word, from the highest digit down -/
def shr (B by_ : Nat) : List Nat → List Nat × Nat
  | [] => ([], 0)
  | d :: ds => let r := shr B by_ ds; ((r.2 * B + d) / by_ :: r.1, (r.2 * B + d) % by_)

theorem shr_length (B b : Nat) : ∀ l, (shr B b l).1.length = l.length
  | [] => rfl
  | d :: ds => by simp [shr, shr_length B b ds]

theorem shr_spec (B b : Nat) (hb : 0 < b) : ∀ l, digs B l = digs B (shr B b l).1 * b + (shr B b l).2 ∧ (shr B b l).2 < b
  | [] => by simp [shr, digs, hb]
  | d :: ds => by
    obtain ⟨h1, h2⟩ := shr_spec B b hb ds
    simp only [shr, digs]
    refine ⟨?_, Nat.mod_lt _ hb⟩
    have h3 := Nat.div_add_mod ((shr B b ds).2 * B + d) b
    generalize ((shr B b ds).2 * B + d) / b = q at *
    generalize ((shr B b ds).2 * B + d) % b = r at *
    rw [h1]
    grind

theorem shr_lt (B b : Nat) (hb : 0 < b) : ∀ l, AllLt B l → AllLt B (shr B b l).1
  | [], _ => AllLt.nil B
  | d :: ds, h => by
    have h2 := (shr_spec B b hb ds).2
    have hd : d < B := h d (by simp)
    refine AllLt.cons ?_ (shr_lt B b hb ds (fun x hx => h x (by simp [hx])))
    rw [Nat.div_lt_iff_lt_mul hb]
    calc (shr B b ds).2 * B + d < (shr B b ds).2 * B + B := by omega
      _ = ((shr B b ds).2 + 1) * B := by rw [Nat.add_mul, Nat.one_mul]
      _ ≤ b * B := Nat.mul_le_mul_right _ h2
      _ = B * b := Nat.mul_comm _ _

theorem shr_digs (B b : Nat) (hb : 0 < b) (l : List Nat) : digs B (shr B b l).1 = digs B l / b ∧ (shr B b l).2 = digs B l % b := by
  obtain ⟨h1, h2⟩ := shr_spec B b hb l
  rw [h1]
  constructor
  · rw [Nat.mul_comm, Nat.mul_add_div hb, Nat.div_eq_of_lt h2, Nat.add_zero]
  · rw [Nat.mul_comm, Nat.mul_add_mod, Nat.mod_eq_of_lt h2]

/-! ### A carry, from the lowest digit up -/
def cl (B : Nat) (c : Nat) : List Nat → List Nat × Nat
  | [] => ([], c)
  | t :: ts => let r := cl B ((c + t) / B) ts; ((c + t) % B :: r.1, r.2)

theorem cl_length (B : Nat) : ∀ (l : List Nat) (c : Nat), (cl B c l).1.length = l.length
  | [], _ => rfl
  | t :: ts, c => by simp [cl, cl_length B ts]

theorem cl_digs (B : Nat) : ∀ (l : List Nat) (c : Nat), digs B (cl B c l).1 + B ^ l.length * (cl B c l).2 = c + digs B l
  | [], c => by simp [cl, digs]
  | t :: ts, c => by
    have h := cl_digs B ts ((c + t) / B)
    have h3 := Nat.div_add_mod (c + t) B
    simp only [cl, digs, List.length_cons, Nat.pow_succ]
    generalize (cl B ((c + t) / B) ts).2 = z at *
    generalize digs B (cl B ((c + t) / B) ts).1 = y at *
    generalize (c + t) / B = q at *
    generalize (c + t) % B = r at *
    generalize B ^ ts.length = p at *
    grind

theorem cl_lt (B : Nat) (hB : 0 < B) : ∀ (l : List Nat) (c : Nat), AllLt B (cl B c l).1
  | [], _ => AllLt.nil B
  | _ :: ts, _c => AllLt.cons (Nat.mod_lt _ hB) (cl_lt B hB ts _)

theorem cl_snoc (B : Nat) : ∀ (l : List Nat) (c t : Nat), cl B c (l ++ [t]) = ((cl B c l).1 ++ [((cl B c l).2 + t) % B], ((cl B c l).2 + t) / B)
  | [], c, t => rfl
  | x :: xs, c, t => by simp [cl, cl_snoc B xs]

theorem cl_carry (B : Nat) (hB : 0 < B) : ∀ (l : List Nat) (c : Nat), c < B → (∀ t ∈ l, t ≤ B * (B - 1)) → (cl B c l).2 < B
  | [], c, hc, _ => hc
  | t :: ts, c, hc, h => by
    refine cl_carry B hB ts _ ?_ (fun x hx => h x (by simp [hx]))
    have ht := h t (by simp)
    rw [Nat.div_lt_iff_lt_mul hB]
    have : B * (B - 1) + B = B * B := by
      obtain ⟨b, rfl⟩ : ∃ b, B = b + 1 := ⟨B - 1, by omega⟩
      simp [Nat.mul_add]
    omega

theorem cl_take_succ (B c : Nat) (l : List Nat) (k : Nat) (h : k < l.length) :
    cl B c (l.take (k + 1)) = ((cl B c (l.take k)).1 ++ [((cl B c (l.take k)).2 + l.getD k 0) % B], ((cl B c (l.take k)).2 + l.getD k 0) / B) := by
  rw [List.take_succ_eq_append_getElem h, cl_snoc]
  simp [List.getD_eq_getElem?_getD, h]

theorem set_done {done : List Nat} {xs : List Nat} {k v : Nat} (hd : done.length = k) (hk : k < xs.length) :
    (done ++ xs.drop k).set k v = done ++ [v] ++ xs.drop (k + 1) := by
  rw [List.set_append_right _ _ (by omega), hd, Nat.sub_self, List.drop_eq_getElem_cons hk, List.set_cons_zero, List.append_assoc]
  rfl

theorem get_done {done xs : List Nat} {k i : Nat} (hd : done.length = k) (hi : k ≤ i) : (done ++ xs.drop k)[i]? = xs[i]? := by
  rw [List.getElem?_append_right (by omega), List.getElem?_drop, hd]
  congr 1; omega

theorem digs_map_mul (B f : Nat) : ∀ l, digs B (l.map (· * f)) = digs B l * f
  | [] => by simp [digs]
  | d :: l => by simp only [List.map_cons, digs, digs_map_mul B f l]; grind

def addL (xs ys : List Nat) : List Nat := List.zipWith (· + ·) xs ys
theorem digs_addL (B : Nat) : ∀ (xs ys : List Nat), xs.length = ys.length → digs B (addL xs ys) = digs B xs + digs B ys
  | [], [], _ => rfl
  | x :: xs, y :: ys, h => by
    simp only [addL, List.zipWith_cons_cons, digs]
    have := digs_addL B xs ys (by simpa using h)
    unfold addL at this
    rw [this]; grind
theorem addL_length (xs ys : List Nat) (h : xs.length = ys.length) : (addL xs ys).length = xs.length := by simp [addL, h]
theorem addL_getD (xs ys : List Nat) (h : xs.length = ys.length) (k : Nat) : (addL xs ys).getD k 0 = xs.getD k 0 + ys.getD k 0 := by
  simp only [addL, List.getD_eq_getElem?_getD, List.getElem?_zipWith]
  by_cases hk : k < xs.length
  · simp [hk, show k < ys.length by omega]
  · simp [List.getElem?_eq_none (show xs.length ≤ k by omega), List.getElem?_eq_none (show ys.length ≤ k by omega)]
theorem addL_le {B : Nat} {xs ys : List Nat} (hB : 2 ≤ B) (hx : AllLt B xs) (hy : AllLt B ys) : ∀ t ∈ addL xs ys, t ≤ B * (B - 1) := by
  intro t ht
  unfold addL at ht
  rw [List.mem_iff_getElem?] at ht
  obtain ⟨i, hi⟩ := ht
  rw [List.getElem?_zipWith] at hi
  have hb : 2 * (B - 1) ≤ B * (B - 1) := Nat.mul_le_mul_right _ hB
  split at hi
  · rename_i a b h1 h2
    have := hx.get h1
    have := hy.get h2
    simp at hi
    omega
  · cases hi

end Num
end Go.Proofs.YtajjgfiojlagmaaGreatDoor

/- Decimal forms: plain laws. -/
namespace Go.Proofs.YtajjgfiojlagmaaGreatDoor
namespace Num

def decVal (l : List Nat) : Nat := l.foldl (fun a c => 10 * a + (c - 48)) 0

def decOk (l : List Nat) : Bool := !l.isEmpty && decide (l.length ≤ 2000) && !(decide (1 < l.length) && l.getD 0 0 == 48) && l.all fun c => decide (48 ≤ c) && decide (c ≤ 57)

def readN (l : List Nat) : Option Nat := if decOk l then some (decVal l) else none

theorem decVal_snoc (l : List Nat) (c : Nat) : decVal (l ++ [c]) = 10 * decVal l + (c - 48) := by simp [decVal]
theorem decVal_take_succ (l : List Nat) (k : Nat) (h : k < l.length) : decVal (l.take (k + 1)) = 10 * decVal (l.take k) + (l.getD k 0 - 48) := by
  rw [List.take_succ_eq_append_getElem h, decVal_snoc]
  simp [List.getD_eq_getElem?_getD, h]

def decL (n : Nat) : List Nat := if n = 0 then [48] else ((digitsOf 10 n).map (· + 48)).reverse
def dec (n : Nat) : ByteArray := mkStr (decL n)

theorem decVal_rev : ∀ (ds : List Nat), decVal ((ds.map (· + 48)).reverse) = digs 10 ds
  | [] => rfl
  | d :: ds => by
    rw [List.map_cons, List.reverse_cons, decVal_snoc, decVal_rev ds, digs]
    omega

theorem decVal_decL (n : Nat) : decVal (decL n) = n := by
  unfold decL
  split
  · rename_i h; subst h; rfl
  · rw [decVal_rev, digs_digitsOf (by omega)]

theorem decL_digit (n : Nat) : ∀ c ∈ decL n, 48 ≤ c ∧ c ≤ 57 := by
  intro c hc
  unfold decL at hc
  split at hc
  · simp at hc; omega
  · rw [List.mem_reverse] at hc
    obtain ⟨d, hd, rfl⟩ := List.mem_map.1 hc
    have := digitsOf_lt (B := 10) (by omega) n d hd
    omega

theorem decL_lt (n : Nat) : AllLt 256 (decL n) := fun c hc => by have := decL_digit n c hc; omega
theorem decL_ne (n : Nat) : decL n ≠ [] := by
  unfold decL
  split
  · simp
  · rename_i h
    intro h2
    rw [List.reverse_eq_nil_iff, List.map_eq_nil_iff] at h2
    exact h ((digitsOf_eq_nil (by omega)).1 h2)

theorem decL_head (n : Nat) (h : 1 < (decL n).length) : (decL n).getD 0 0 ≠ 48 := by
  unfold decL at h ⊢
  split
  · rename_i h0; rw [if_pos h0] at h; simp at h
  · rename_i h0
    have hne : digitsOf 10 n ≠ [] := fun h2 => h0 ((digitsOf_eq_nil (by omega)).1 h2)
    have hc := digitsOf_canon (B := 10) (by omega) n
    unfold Canon at hc
    intro h1
    apply hc
    have : ((digitsOf 10 n).map (· + 48)).reverse.head? = some 48 := by
      cases hr : ((digitsOf 10 n).map (· + 48)).reverse with
      | nil => simp at hr; exact absurd hr hne
      | cons a t => rw [hr] at h1; simpa using h1
    rw [List.head?_reverse, List.getLast?_map] at this
    simpa using this

theorem decL_decVal (l : List Nat) (h : decOk l = true) : decL (decVal l) = l := by
  unfold decOk at h
  simp only [Bool.and_eq_true, Bool.not_eq_true', List.isEmpty_eq_false_iff, decide_eq_true_eq, List.all_eq_true, Bool.and_eq_false_iff, decide_eq_false_iff_not, beq_eq_false_iff_ne] at h
  obtain ⟨⟨⟨hne, _⟩, hh⟩, hd⟩ := h
  obtain ⟨ds, hds⟩ : ∃ ds : List Nat, ds = (l.map (· - 48)).reverse := ⟨_, rfl⟩
  have hl : l = (ds.map (· + 48)).reverse := by
    rw [hds, List.map_reverse, List.reverse_reverse, List.map_map]
    conv => lhs; rw [← List.map_id l]
    apply List.map_congr_left
    intro c hc
    have := hd c hc
    simp; omega
  have hlt : AllLt 10 ds := by
    intro d hd2
    rw [hds, List.mem_reverse] at hd2
    obtain ⟨c, hc, rfl⟩ := List.mem_map.1 hd2
    have := hd c hc
    omega
  have hval : decVal l = digs 10 ds := by rw [hl, decVal_rev]
  by_cases h0 : l = [48]
  · rw [h0]; rfl
  · have hcan : Canon ds := by
      unfold Canon
      rw [hds, List.getLast?_reverse, List.head?_map]
      intro hx
      cases hl2 : l with
      | nil => exact hne hl2
      | cons a t =>
        rw [hl2] at hx
        simp at hx
        have ha := hd a (by rw [hl2]; simp)
        have ha48 : a = 48 := by omega
        rcases hh with hh | hh
        · rw [hl2] at hh
          simp at hh
          rw [hl2, ha48, hh] at h0
          exact h0 rfl
        · rw [hl2, ha48] at hh
          exact hh (by simp)
    have hds0 : ds ≠ [] := by
      intro e; rw [e] at hds
      have := congrArg List.length hds
      simp at this
      exact hne (List.eq_nil_of_length_eq_zero this.symm)
    have hpos := digs_pos_of_canon (B := 10) (by omega) hcan hds0
    unfold decL
    rw [if_neg (by omega), hval, digitsOf_digs (by omega) hlt hcan, ← hl]

theorem dec_size (n : Nat) : (dec n).size = (decL n).length := by simp [dec, mkStr_size]
theorem bts_dec (n : Nat) : bts (dec n) = decL n := bts_mkStr (decL_lt n)
theorem mkStr_bts (s : ByteArray) : mkStr (bts s) = s := by
  cases s with
  | mk d =>
    unfold mkStr bts
    simp only [List.map_map, ByteArray.mk.injEq]
    have : (d.toList.map (UInt8.ofNat ∘ UInt8.toNat)) = d.toList := by
      conv => rhs; rw [← List.map_id d.toList]
      apply List.map_congr_left
      intro c _
      simp
    rw [this]
theorem dec_inj {a b : Nat} (h : dec a = dec b) : a = b := by
  have := congrArg (fun s => decVal (bts s)) h
  simpa [bts_dec, decVal_decL] using this
theorem dec_of_ok (s : ByteArray) (h : decOk (bts s) = true) : s = dec (decVal (bts s)) := by
  unfold dec; rw [decL_decVal _ h, mkStr_bts]

theorem decL_length (n : Nat) (h : n ≠ 0) : (decL n).length = (digitsOf 10 n).length := by
  unfold decL; rw [if_neg h]; simp
theorem decL_length_le (n k : Nat) (hk : 0 < k) (h : n < 10 ^ k) : (decL n).length ≤ k := by
  by_cases h0 : n = 0
  · subst h0; simp [decL]; omega
  · rw [decL_length n h0]; exact length_le_of_lt_pow (by omega) k n h

end Num
end Go.Proofs.YtajjgfiojlagmaaGreatDoor

/- Decimal forms: order by length and bytes is order of numbers. -/
namespace Go.Proofs.YtajjgfiojlagmaaGreatDoor
open Num

theorem decVal_from (l : List Nat) : ∀ a, l.foldl (fun a c => 10 * a + (c - 48)) a = a * 10 ^ l.length + decVal l := by
  induction l with
  | nil => intro a; simp [decVal]
  | cons c l ih =>
    intro a
    have e : decVal (c :: l) = (10 * 0 + (c - 48)) * 10 ^ l.length + decVal l := by rw [decVal, List.foldl_cons, ih]
    rw [Nat.mul_zero, Nat.zero_add] at e
    rw [List.foldl_cons, ih, e, List.length_cons, Nat.pow_succ, Nat.add_mul]
    generalize 10 ^ l.length = t
    have : 10 * a * t = a * (t * 10) := by rw [Nat.mul_comm 10 a, Nat.mul_assoc, Nat.mul_comm 10 t]
    omega

theorem decVal_cons (c : Nat) (l : List Nat) : decVal (c :: l) = (c - 48) * 10 ^ l.length + decVal l := by
  rw [decVal, List.foldl_cons, decVal_from]; simp

theorem decVal_lt : ∀ (l : List Nat), (∀ c ∈ l, 48 ≤ c ∧ c ≤ 57) → decVal l < 10 ^ l.length
  | [], _ => by simp [decVal]
  | c :: l, h => by
    rw [decVal_cons, List.length_cons, Nat.pow_succ]
    have h1 := decVal_lt l fun c hc => h c (List.mem_cons_of_mem _ hc)
    have h2 := h c List.mem_cons_self
    have h3 : (c - 48) * 10 ^ l.length ≤ 9 * 10 ^ l.length := Nat.mul_le_mul_right _ (by omega)
    omega

theorem bytesLess_dig : ∀ (x y : List Nat), x.length = y.length → (∀ c ∈ x, 48 ≤ c ∧ c ≤ 57) → (∀ c ∈ y, 48 ≤ c ∧ c ≤ 57) →
    Op.bytesLess (x.map UInt8.ofNat) (y.map UInt8.ofNat) = decide (decVal x < decVal y)
  | [], [], _, _, _ => by simp [Op.bytesLess]
  | [], _ :: _, h, _, _ => by simp at h
  | _ :: _, [], h, _, _ => by simp at h
  | a :: x, b :: y, h, hx, hy => by
    have ih := bytesLess_dig x y (by simpa using h) (fun c hc => hx c (List.mem_cons_of_mem _ hc)) (fun c hc => hy c (List.mem_cons_of_mem _ hc))
    have ha := hx a List.mem_cons_self
    have hb := hy b List.mem_cons_self
    have h1 := decVal_lt x fun c hc => hx c (List.mem_cons_of_mem _ hc)
    have h2 := decVal_lt y fun c hc => hy c (List.mem_cons_of_mem _ hc)
    have hl : x.length = y.length := by simpa using h
    rw [List.map_cons, List.map_cons, Op.bytesLess, ih, decVal_cons, decVal_cons, hl]
    rw [hl] at h1
    generalize 10 ^ y.length = t at *
    have e1 : (UInt8.ofNat a < UInt8.ofNat b) ↔ a < b := by
      rw [UInt8.lt_iff_toNat_lt, UInt8.toNat_ofNat_of_lt' (by show a < 256; omega), UInt8.toNat_ofNat_of_lt' (by show b < 256; omega)]
    have e2 : (UInt8.ofNat a = UInt8.ofNat b) ↔ a = b := by
      rw [← UInt8.toNat_inj, UInt8.toNat_ofNat_of_lt' (by show a < 256; omega), UInt8.toNat_ofNat_of_lt' (by show b < 256; omega)]
    rcases Nat.lt_trichotomy a b with hab | hab | hab
    · have : (a - 48) * t + t ≤ (b - 48) * t := by rw [← Nat.succ_mul]; exact Nat.mul_le_mul_right _ (by omega)
      rw [decide_eq_true (e1.2 hab), Bool.true_or, eq_comm, decide_eq_true_eq]; omega
    · subst hab
      simp
    · have : (b - 48) * t + t ≤ (a - 48) * t := by rw [← Nat.succ_mul]; exact Nat.mul_le_mul_right _ (by omega)
      have n1 : ¬ (UInt8.ofNat a < UInt8.ofNat b) := fun h => by have := e1.1 h; omega
      have n2 : ¬ (UInt8.ofNat a = UInt8.ofNat b) := fun h => by have := e2.1 h; omega
      rw [decide_eq_false n1, beq_eq_false_iff_ne.2 n2, Bool.false_and, Bool.or_false, eq_comm, decide_eq_false_iff_not]; omega

theorem toList_mkStr (l : List Nat) : (mkStr l).toList = l.map UInt8.ofNat := by
  rw [ByteArray.toList_eq]; simp [mkStr]

theorem dec_less (A B : Nat) (h : (decL A).length = (decL B).length) : Op.bytesLess (dec A).toList (dec B).toList = decide (A < B) := by
  unfold dec
  rw [toList_mkStr, toList_mkStr, bytesLess_dig _ _ h (decL_digit A) (decL_digit B), decVal_decL, decVal_decL]

theorem decL_low (n : Nat) (h : 1 < (decL n).length) : 10 ^ ((decL n).length - 1) ≤ n := by
  have hd := decL_digit n
  have hh := decL_head n h
  have hv := decVal_decL n
  generalize decL n = l at *
  cases l with
  | nil => simp at h
  | cons c l =>
    rw [decVal_cons] at hv
    have h1 := hd c List.mem_cons_self
    simp only [List.getD_cons_zero] at hh
    have : 1 * 10 ^ l.length ≤ (c - 48) * 10 ^ l.length := Nat.mul_le_mul_right _ (by omega)
    simp only [List.length_cons, Nat.add_sub_cancel]
    omega

theorem decL_high (n : Nat) : n < 10 ^ (decL n).length := by
  have := decVal_lt _ (decL_digit n)
  rwa [decVal_decL] at this

theorem decL_pos (n : Nat) : 0 < (decL n).length := List.length_pos_iff.2 (decL_ne n)

theorem dec_len_lt (A B : Nat) (h : (decL A).length < (decL B).length) : A < B := by
  have h1 := decL_high A
  have h2 := decL_low B (by have := decL_pos A; omega)
  have h3 : (10 : Nat) ^ (decL A).length ≤ 10 ^ ((decL B).length - 1) := Nat.pow_le_pow_right (by omega) (by omega)
  omega

theorem dec_inj {A B : Nat} (h : dec A = dec B) : A = B := by
  have := congrArg bts h
  rw [bts_dec, bts_dec] at this
  rw [← decVal_decL A, this, decVal_decL]

end Go.Proofs.YtajjgfiojlagmaaGreatDoor

/- Rational numbers as pairs in lowest terms: plain laws. -/
namespace Go.Proofs.YtajjgfiojlagmaaGreatDoor
open Num

namespace Q

def red (n d : Nat) : Nat × Nat := (n / Nat.gcd n d, d / Nat.gcd n d)

def Low (p : Nat × Nat) : Prop := 0 < p.2 ∧ Nat.gcd p.1 p.2 = 1

theorem red_spec (n d : Nat) (hd : 0 < d) : ∃ g, 0 < g ∧ n = g * (red n d).1 ∧ d = g * (red n d).2 ∧ Nat.gcd (red n d).1 (red n d).2 = 1 ∧ 0 < (red n d).2 := by
  have hg : 0 < Nat.gcd n d := Nat.gcd_pos_of_pos_right n hd
  refine ⟨Nat.gcd n d, hg, (Nat.mul_div_cancel' (Nat.gcd_dvd_left n d)).symm, (Nat.mul_div_cancel' (Nat.gcd_dvd_right n d)).symm, ?_, ?_⟩
  · simp only [red]; rw [Nat.gcd_div (Nat.gcd_dvd_left n d) (Nat.gcd_dvd_right n d), Nat.div_self hg]
  · exact Nat.div_pos (Nat.le_of_dvd hd (Nat.gcd_dvd_right n d)) hg

theorem red_low {n d : Nat} (hd : 0 < d) : Low (red n d) := let ⟨_, _, _, _, h1, h2⟩ := red_spec n d hd; ⟨h2, h1⟩

theorem low_eq {p q : Nat × Nat} (hp : Low p) (hq : Low q) (h : p.1 * q.2 = q.1 * p.2) : p = q := by
  obtain ⟨a, b⟩ := p
  obtain ⟨c, d⟩ := q
  obtain ⟨h1, h2⟩ := hp
  obtain ⟨h3, h4⟩ := hq
  simp only at *
  have e1 : b ∣ d := by
    have : b ∣ a * d := ⟨c, by rw [h, Nat.mul_comm]⟩
    exact (Nat.Coprime.symm h2).dvd_of_dvd_mul_left this
  have e2 : d ∣ b := by
    have : d ∣ c * b := ⟨a, by rw [← h, Nat.mul_comm]⟩
    exact (Nat.Coprime.symm h4).dvd_of_dvd_mul_left this
  have e3 : b = d := Nat.dvd_antisymm e1 e2
  subst e3
  rw [Nat.eq_of_mul_eq_mul_right h1 h]

theorem red_eq {n d n' d' : Nat} (hd : 0 < d) (hd' : 0 < d') (h : n * d' = n' * d) : red n d = red n' d' := by
  obtain ⟨g, hg, e1, e2, e3, e4⟩ := red_spec n d hd
  obtain ⟨g', hg', f1, f2, f3, f4⟩ := red_spec n' d' hd'
  refine low_eq ⟨e4, e3⟩ ⟨f4, f3⟩ ?_
  have : (g * g') * ((red n d).1 * (red n' d').2) = (g * g') * ((red n' d').1 * (red n d).2) := by
    generalize red n d = u at *
    generalize red n' d' = v at *
    subst e1 e2 f1 f2
    grind
  exact Nat.eq_of_mul_eq_mul_left (Nat.mul_pos hg hg') this

theorem red_of_low {p : Nat × Nat} (h : Low p) : red p.1 p.2 = p := by
  unfold red; rw [h.2]; simp

def add (p q : Nat × Nat) : Nat × Nat := red (p.1 * q.2 + q.1 * p.2) (p.2 * q.2)
def mul (p q : Nat × Nat) : Nat × Nat := red (p.1 * q.1) (p.2 * q.2)
section
variable {n d : Nat} (hd : 0 < d) {q : Nat × Nat} (hq : 0 < q.2)
include hd hq

theorem add_red : add (red n d) q = red (n * q.2 + q.1 * d) (d * q.2) := by
  obtain ⟨g, hg, e1, e2, e3, e4⟩ := red_spec n d hd
  refine red_eq (Nat.mul_pos e4 hq) (Nat.mul_pos hd hq) ?_
  generalize (red n d).1 = a at *
  generalize (red n d).2 = b at *
  subst e1 e2
  grind

theorem red_add : add q (red n d) = red (q.1 * d + n * q.2) (q.2 * d) := by
  obtain ⟨g, hg, e1, e2, e3, e4⟩ := red_spec n d hd
  refine red_eq (Nat.mul_pos hq e4) (Nat.mul_pos hq hd) ?_
  generalize (red n d).1 = a at *
  generalize (red n d).2 = b at *
  subst e1 e2
  grind

theorem mul_red : mul (red n d) q = red (n * q.1) (d * q.2) := by
  obtain ⟨g, hg, e1, e2, e3, e4⟩ := red_spec n d hd
  refine red_eq (Nat.mul_pos e4 hq) (Nat.mul_pos hd hq) ?_
  generalize (red n d).1 = a at *
  generalize (red n d).2 = b at *
  subst e1 e2
  grind

theorem red_mul : mul q (red n d) = red (q.1 * n) (q.2 * d) := by
  obtain ⟨g, hg, e1, e2, e3, e4⟩ := red_spec n d hd
  refine red_eq (Nat.mul_pos hq e4) (Nat.mul_pos hq hd) ?_
  generalize (red n d).1 = a at *
  generalize (red n d).2 = b at *
  subst e1 e2
  grind
end

theorem add_comm (p q : Nat × Nat) : add p q = add q p := by
  unfold add; rw [Nat.add_comm, Nat.mul_comm p.2]
theorem mul_comm (p q : Nat × Nat) : mul p q = mul q p := by
  unfold mul; rw [Nat.mul_comm, Nat.mul_comm p.2]

theorem one_mul {p : Nat × Nat} (hp : Low p) : mul (1, 1) p = p := by
  unfold mul; rw [Nat.one_mul, Nat.one_mul]; exact red_of_low hp

theorem add_assoc {p q r : Nat × Nat} (hp : 0 < p.2) (hq : 0 < q.2) (hr : 0 < r.2) : add (add p q) r = add p (add q r) := by
  rw [show add p q = red (p.1 * q.2 + q.1 * p.2) (p.2 * q.2) from rfl, show add q r = red (q.1 * r.2 + r.1 * q.2) (q.2 * r.2) from rfl,
    add_red (Nat.mul_pos hp hq) hr, red_add (Nat.mul_pos hq hr) hp]
  congr 1 <;> grind

theorem mul_assoc {p q r : Nat × Nat} (hp : 0 < p.2) (hq : 0 < q.2) (hr : 0 < r.2) : mul (mul p q) r = mul p (mul q r) := by
  rw [show mul p q = red (p.1 * q.1) (p.2 * q.2) from rfl, show mul q r = red (q.1 * r.1) (q.2 * r.2) from rfl,
    mul_red (Nat.mul_pos hp hq) hr, red_mul (Nat.mul_pos hq hr) hp]
  congr 1 <;> grind

theorem mul_add {p q r : Nat × Nat} (hp : 0 < p.2) (hq : 0 < q.2) (hr : 0 < r.2) : mul p (add q r) = add (mul p q) (mul p r) := by
  have h1 : 0 < (mul p r).2 := (red_low (Nat.mul_pos hp hr)).1
  rw [show mul p q = red (p.1 * q.1) (p.2 * q.2) from rfl, show add q r = red (q.1 * r.2 + r.1 * q.2) (q.2 * r.2) from rfl,
    red_mul (Nat.mul_pos hq hr) hp, add_red (Nat.mul_pos hp hq) h1]
  obtain ⟨g, hg, e1, e2, e3, e4⟩ := red_spec (p.1 * r.1) (p.2 * r.2) (Nat.mul_pos hp hr)
  have hp' := hp
  refine red_eq (Nat.mul_pos hp (Nat.mul_pos hq hr)) (Nat.mul_pos (Nat.mul_pos hp hq) h1) ?_
  rw [show mul p r = red (p.1 * r.1) (p.2 * r.2) from rfl]
  generalize (red (p.1 * r.1) (p.2 * r.2)).1 = a at *
  generalize (red (p.1 * r.1) (p.2 * r.2)).2 = b at *
  obtain ⟨p1, p2⟩ := p
  obtain ⟨q1, q2⟩ := q
  obtain ⟨r1, r2⟩ := r
  simp only at *
  -- a / b = p1 r1 / (p2 r2)
  have h : a * (p2 * r2) = p1 * r1 * b := by rw [e1, e2]; grind
  have hb : (p1 * (q1 * r2 + r1 * q2)) * (p2 * q2 * b) = p2 * q2 * ((p1 * q1 * r2) * b + (p1 * r1 * b) * q2) := by grind
  rw [hb, ← h]
  grind

end Q
end Go.Proofs.YtajjgfiojlagmaaGreatDoor

/- Borrows: plain laws. -/
namespace Go.Proofs.YtajjgfiojlagmaaGreatDoor
namespace Num

def sb1 (B b x y : Nat) : Nat := if y + b ≤ x then x - y - b else x + B - y - b
def sb2 (b x y : Nat) : Nat := if y + b ≤ x then 0 else 1

def bl (B : Nat) (b : Nat) : List Nat → List Nat → List Nat × Nat
  | x :: xs, y :: ys => let r := bl B (sb2 b x y) xs ys; (sb1 B b x y :: r.1, r.2)
  | _, _ => ([], b)

theorem wrap_u64 (n : Int) : IntKind.u64.wrap n = n % 18446744073709551616 := by simp [IntKind.wrap, IntKind.bits, IntKind.signed]

end Num
end Go.Proofs.YtajjgfiojlagmaaGreatDoor

/- Products: plain laws. -/
namespace Go.Proofs.YtajjgfiojlagmaaGreatDoor
namespace Num

end Num
end Go.Proofs.YtajjgfiojlagmaaGreatDoor

/- Long division: plain laws. -/
namespace Go.Proofs.YtajjgfiojlagmaaGreatDoor
namespace Num

/-! ### A multiple is taken away -/
def ta1 (x r : Nat) : Nat := if x < r then x + W - r else x - r
def ta2 (x r p : Nat) : Nat := p / W + if x < r then 1 else 0

def ta (d : Nat) : Nat → List Nat → List Nat → List Nat × Nat
  | b, x :: xs, y :: ys => let p := d * y + b; let t := ta d (ta2 x (p % W) p) xs ys; (ta1 x (p % W) :: t.1, t.2)
  | b, _, _ => ([], b)

theorem ta_length (d : Nat) : ∀ (xs ys : List Nat) (b : Nat), xs.length = ys.length → (ta d b xs ys).1.length = xs.length
  | [], _, _, _ => by simp [ta]
  | x :: xs, y :: ys, b, h => by simp [ta, ta_length d xs ys _ (by simpa using h)]

theorem ta_snoc (d : Nat) : ∀ (xs ys : List Nat) (b x y : Nat), xs.length = ys.length →
    ta d b (xs ++ [x]) (ys ++ [y]) = ((ta d b xs ys).1 ++ [ta1 x ((d * y + (ta d b xs ys).2) % W)], ta2 x ((d * y + (ta d b xs ys).2) % W) (d * y + (ta d b xs ys).2))
  | [], [], b, x, y, _ => rfl
  | u :: xs, v :: ys, b, x, y, h => by simp [ta, ta_snoc d xs ys _ x y (by simpa using h)]

theorem ta_take_succ (d b : Nat) (xs ys : List Nat) (k : Nat) (h : xs.length = ys.length) (hk : k < xs.length) :
    ta d b (xs.take (k + 1)) (ys.take (k + 1)) = ((ta d b (xs.take k) (ys.take k)).1 ++ [ta1 (xs.getD k 0) ((d * ys.getD k 0 + (ta d b (xs.take k) (ys.take k)).2) % W)],
      ta2 (xs.getD k 0) ((d * ys.getD k 0 + (ta d b (xs.take k) (ys.take k)).2) % W) (d * ys.getD k 0 + (ta d b (xs.take k) (ys.take k)).2)) := by
  rw [List.take_succ_eq_append_getElem hk, List.take_succ_eq_append_getElem (by omega), ta_snoc _ _ _ _ _ _ (by simp; omega)]
  simp [List.getD_eq_getElem?_getD, hk, show k < ys.length by omega]

theorem ta2_lt {x y b d : Nat} (hy : y < W) (hb : b < W) (hd : d < W) : ta2 x ((d * y + b) % W) (d * y + b) < W := by
  have h1 : d * y ≤ (W - 1) * (W - 1) := Nat.mul_le_mul (by omega) (by omega)
  unfold ta2 W at *
  generalize d * y = p at *
  split <;> omega

theorem ta1_lt {x r : Nat} (hx : x < W) (hr : r < W) : ta1 x r < W := by unfold ta1; split <;> omega

theorem ta_eq (x r p : Nat) (_hx : x < W) (hr : r = p % W) : x + W * ta2 x r p = p + ta1 x r := by
  subst hr
  unfold ta1 ta2
  have := Nat.div_add_mod p W
  have := Nat.mod_lt p (show 0 < W by decide)
  split
  · rw [Nat.mul_add]; omega
  · rw [Nat.mul_add]; omega

theorem ta_spec (d : Nat) (hd : d < W) : ∀ (xs ys : List Nat) (b : Nat), xs.length = ys.length → AllLt W xs → AllLt W ys → b < W →
    digs W xs + W ^ xs.length * (ta d b xs ys).2 = d * digs W ys + b + digs W (ta d b xs ys).1 ∧ AllLt W (ta d b xs ys).1 ∧ (ta d b xs ys).2 < W
  | [], [], b, _, _, _, hb => by simp [ta, digs, AllLt.nil, hb]
  | x :: xs, y :: ys, b, h, hx, hy, hb => by
    have hx0 : x < W := hx x (by simp)
    have hy0 : y < W := hy y (by simp)
    have hm := Nat.mod_lt (d * y + b) (show 0 < W by decide)
    obtain ⟨h1, h2, h3⟩ := ta_spec d hd xs ys (ta2 x ((d * y + b) % W) (d * y + b)) (by simpa using h) (fun z hz => hx z (by simp [hz])) (fun z hz => hy z (by simp [hz])) (ta2_lt hy0 hb hd)
    refine ⟨?_, AllLt.cons (ta1_lt hx0 hm) h2, h3⟩
    have h4 := ta_eq x ((d * y + b) % W) (d * y + b) hx0 rfl
    simp only [ta, digs, List.length_cons, Nat.pow_succ]
    generalize (ta d (ta2 x ((d * y + b) % W) (d * y + b)) xs ys).2 = z at *
    generalize digs W (ta d (ta2 x ((d * y + b) % W) (d * y + b)) xs ys).1 = o at *
    generalize ta1 x ((d * y + b) % W) = s at *
    generalize ta2 x ((d * y + b) % W) (d * y + b) = c at *
    generalize W ^ xs.length = p at *
    generalize digs W xs = u at *
    generalize digs W ys = v at *
    generalize W = w at *
    grind

theorem ta_top (d : Nat) (hd : d < W) (xs ys : List Nat) (t : Nat) (h : xs.length = ys.length) (hx : AllLt W xs) (hy : AllLt W ys) (_ht : t < W) :
    (t < (ta d 0 xs ys).2 ↔ digs W (xs ++ [t]) < d * digs W ys) ∧
    digs W ((ta d 0 xs ys).1 ++ [ta1 t (ta d 0 xs ys).2]) = (if digs W (xs ++ [t]) < d * digs W ys then digs W (xs ++ [t]) + W ^ (xs.length + 1) - d * digs W ys else digs W (xs ++ [t]) - d * digs W ys) := by
  obtain ⟨h1, h2, h3⟩ := ta_spec d hd xs ys 0 h hx hy (by decide)
  have hl := ta_length d xs ys 0 h
  have hlo := digs_lt (show 0 < W by decide) h2
  rw [hl] at hlo
  rw [digs_snoc, digs_snoc, hl, Nat.pow_succ]
  generalize (ta d 0 xs ys).2 = b at *
  generalize digs W (ta d 0 xs ys).1 = o at *
  generalize digs W xs = u at *
  generalize d * digs W ys = v at *
  generalize hp : W ^ xs.length = p at *
  by_cases htb : t < b
  · have e1 : p * (t + 1) ≤ p * b := Nat.mul_le_mul_left _ htb
    rw [Nat.mul_add] at e1
    have hlt : u + p * t < v := by omega
    refine ⟨⟨fun _ => hlt, fun _ => htb⟩, ?_⟩
    rw [if_pos hlt]
    unfold ta1
    rw [if_pos htb]
    have e2 : p * (t + W - b) + p * b = p * t + p * W := by rw [← Nat.mul_add, ← Nat.mul_add]; congr 1; omega
    omega
  · have e1 : p * b ≤ p * t := Nat.mul_le_mul_left _ (by omega)
    have hlt : ¬ u + p * t < v := by omega
    refine ⟨⟨fun h => absurd h htb, fun h => absurd h hlt⟩, ?_⟩
    rw [if_neg hlt]
    unfold ta1
    rw [if_neg htb]
    have e2 : p * (t - b) + p * b = p * t := by rw [← Nat.mul_add]; congr 1; omega
    omega

/-! ### Given back -/
theorem gb_top (xs ys : List Nat) (t : Nat) (h : xs.length = ys.length) :
    digs W ((cl W 0 (addL xs ys)).1 ++ [(t + (cl W 0 (addL xs ys)).2) % W]) = (digs W (xs ++ [t]) + digs W ys) % W ^ (xs.length + 1) := by
  have h1 := cl_digs W (addL xs ys) 0
  have hl := cl_length W (addL xs ys) 0
  have hlt := digs_lt (show 0 < W by decide) (cl_lt W (by decide) (addL xs ys) 0)
  rw [addL_length _ _ h] at h1 hl
  rw [hl] at hlt
  rw [digs_addL _ _ _ h] at h1
  rw [digs_snoc, digs_snoc, hl, Nat.pow_succ]
  generalize (cl W 0 (addL xs ys)).2 = b at *
  generalize digs W (cl W 0 (addL xs ys)).1 = o at *
  generalize digs W xs = u at *
  generalize digs W ys = v at *
  generalize hp : W ^ xs.length = p at *
  have e1 : u + p * t + v = o + p * (t + b) := by rw [Nat.mul_add]; omega
  have e2 := Nat.div_add_mod (t + b) W
  have e3 := Nat.mod_lt (t + b) (show 0 < W by decide)
  rw [e1]
  generalize (t + b) / W = q at *
  generalize (t + b) % W = r at *
  rw [← e2]
  have e4 : o + p * (W * q + r) = o + p * r + p * W * q := by rw [Nat.mul_add, Nat.mul_assoc]; omega
  rw [e4, Nat.add_mul_mod_self_left, Nat.mod_eq_of_lt]
  have e5 : p * (r + 1) ≤ p * W := Nat.mul_le_mul_left _ e3
  rw [Nat.mul_add] at e5
  omega

/-! ### The digit of a quotient -/

theorem guess_ge {u v yy t3 m d : Nat} (hv : yy * m ≤ v) (hu : u < (t3 + 1) * m) (hd : t3 < d * yy) : u / v < d := by
  have hv0 : 0 < v := by
    rcases Nat.eq_zero_or_pos v with h | h
    · subst h
      have : yy * m = 0 := by omega
      rcases Nat.mul_eq_zero.1 this with h1 | h1
      · subst h1; simp at hd
      · subst h1; simp at hu
    · exact h
  rw [Nat.div_lt_iff_lt_mul hv0]
  calc u < (t3 + 1) * m := hu
    _ ≤ (d * yy) * m := Nat.mul_le_mul_right _ hd
    _ = d * (yy * m) := Nat.mul_assoc _ _ _
    _ ≤ d * v := Nat.mul_le_mul_left _ hv

theorem guess_le {u v yy t3 m d : Nat} (_hm : 0 < m) (hv : v < (yy + 1) * m) (hv0 : 0 < v) (hu : t3 * m ≤ u) (hd : d * yy ≤ t3) (hyy : d ≤ yy) : d ≤ u / v + 1 := by
  rcases Nat.lt_or_ge (u / v + 1) d with h | h
  · exfalso
    have h1 : u < (u / v + 1) * v := Nat.lt_mul_of_div_lt (Nat.lt_succ_self _) hv0
    generalize u / v = q at *
    obtain ⟨e, rfl⟩ : ∃ e, d = e + 1 := ⟨d - 1, by omega⟩
    have h2 : (q + 1) * v ≤ e * v := Nat.mul_le_mul_right _ (by omega)
    have h3 : e * v ≤ e * ((yy + 1) * m) := Nat.mul_le_mul_left _ (Nat.le_of_lt hv)
    have h4 : (e + 1) * yy * m ≤ u := Nat.le_trans (Nat.mul_le_mul_right _ hd) hu
    have h5 : (e + 1) * yy * m < e * ((yy + 1) * m) := by omega
    rw [← Nat.mul_assoc] at h5
    have h6 := Nat.lt_of_mul_lt_mul_right h5
    rw [Nat.add_mul, Nat.mul_add] at h6
    omega
  · exact h

end Num
end Go.Proofs.YtajjgfiojlagmaaGreatDoor

/- What Text does: plain laws. -/
namespace Go.Proofs.YtajjgfiojlagmaaGreatDoor
namespace Num

theorem text_digit (p q j : Nat) : (p + 10 ^ (j + 1) * q) % 10 = p % 10 ∧ (p + 10 ^ (j + 1) * q) / 10 = p / 10 + 10 ^ j * q := by
  rw [Nat.pow_succ, Nat.mul_comm (10 ^ j) 10, Nat.mul_assoc]
  generalize 10 ^ j * q = z
  omega

theorem text_step (out : List Nat) (N p q j : Nat) (h : digitsOf 10 N = out ++ digitsOf 10 (p + 10 ^ (j + 1) * q)) (hp : 0 < p ∨ 0 < q) :
    digitsOf 10 N = (out ++ [p % 10]) ++ digitsOf 10 (p / 10 + 10 ^ j * q) := by
  have hpos : 0 < p + 10 ^ (j + 1) * q := by
    rcases hp with hp | hp
    · omega
    · have := Nat.mul_pos (Nat.pow_pos (n := j + 1) (show 0 < 10 by omega)) hp
      omega
  rw [digitsOf_pos (by omega) hpos, (text_digit p q j).1, (text_digit p q j).2] at h
  rw [h, List.append_assoc]; rfl

theorem text_bound (p j : Nat) (h : p < 10 ^ (j + 1)) : p / 10 < 10 ^ j := by
  rw [Nat.pow_succ] at h
  omega

theorem canon_digs_pos (l : List Nat) (h : Canon l) : 0 < digs W l ↔ 0 < l.length := by
  constructor
  · intro h1
    rcases Nat.eq_zero_or_pos l.length with h2 | h2
    · rw [List.eq_nil_of_length_eq_zero h2] at h1; simp [digs] at h1
    · exact h2
  · intro h1
    exact digs_pos_of_canon (by decide) h (by intro e; rw [e] at h1; simp at h1)

theorem canon_take_of_last (cells : List Nat) (n : Nat) (hn : n ≤ cells.length) (h : n = 0 ∨ cells.getD (n - 1) 0 ≠ 0) : Canon (cells.take n) := by
  unfold Canon
  by_cases h0 : n = 0
  · subst h0; simp
  · rw [List.getLast?_take, if_neg h0, List.getElem?_eq_getElem (by omega)]
    rcases h with h | h
    · exact absurd h h0
    · rw [List.getD_eq_getElem?_getD, List.getElem?_eq_getElem (by omega)] at h
      simpa using h

theorem digs_take_drop_zero (cells : List Nat) (n : Nat) (hn : n + 1 ≤ cells.length) (h : cells.getD n 0 = 0) : digs W (cells.take (n + 1)) = digs W (cells.take n) := by
  rw [digs_take_succ _ _ (by omega), h]; simp

theorem text_dec (N : Nat) (out : List Nat) (h : digitsOf 10 N = out) : decL N = if out = [] then [48] else (out.map (· + 48)).reverse := by
  unfold decL
  by_cases h0 : N = 0
  · subst h0
    rw [← h, digitsOf_zero]; rfl
  · rw [if_neg h0, h, if_neg]
    intro e
    rw [e] at h
    exact h0 ((digitsOf_eq_nil (by omega)).1 h)

end Num
end Go.Proofs.YtajjgfiojlagmaaGreatDoor
