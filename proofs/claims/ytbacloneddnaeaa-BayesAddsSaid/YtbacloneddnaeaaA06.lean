/- Texts of this claim, joined: NatB, NatC, NatF, NatG, NatH, NatD. -/
import Derived.Test.YtbacloneddnaeaaA05
import Derived.Lib.BitFns

/- Numbers as bytes: lengths, order, bits: plain laws. -/
namespace Go.Proofs.Ytbacloneddnaeaa
namespace Num

theorem nb_size (n : Nat) : (nb n).size = nl n := by simp [nb, nl, mkStr_size]
theorem bts_nb (n : Nat) : bts (nb n) = digitsOf 256 n := bts_mkStr (digitsOf_lt (by omega) n)
theorem nb_get (n k : Nat) (h : k < (nb n).size) : ((nb n)[k]).toNat = (digitsOf 256 n).getD k 0 := by
  rw [← bts_getD _ _ h, bts_nb]
theorem nb_inj {a b : Nat} (h : nb a = nb b) : a = b := by
  have := congrArg bts h
  rw [bts_nb, bts_nb] at this
  exact digitsOf_inj (by omega) this
theorem natV_zero : natV 0 = .agg #[.string { data := #[] }] := rfl
theorem nb_zero : nb 0 = ByteArray.empty := rfl
theorem nl_zero : nl 0 = 0 := rfl
theorem nl_eq_zero {n : Nat} : nl n = 0 ↔ n = 0 := by
  unfold nl
  rw [List.length_eq_zero_iff]; exact digitsOf_eq_nil (by omega)

theorem nl_le_of_lt {n k : Nat} (h : n < 256 ^ k) : nl n ≤ k := length_le_of_lt_pow (by omega) k n h
theorem lt_pow_nl (n : Nat) : n < 256 ^ nl n := lt_pow_length (by omega) n
theorem nl_mono {a b : Nat} (h : a ≤ b) : nl a ≤ nl b := nl_le_of_lt (Nat.lt_of_le_of_lt h (lt_pow_nl b))
theorem pow_le_of_nl {n k : Nat} (h : k < nl n) : 256 ^ k ≤ n := pow_le_of_length (by omega) n k h
theorem nl_mul (a b : Nat) : nl (a * b) ≤ nl a + nl b := by
  apply nl_le_of_lt
  rw [Nat.pow_add]
  exact Nat.mul_lt_mul'' (lt_pow_nl a) (lt_pow_nl b)
theorem nl_add (a b : Nat) : nl (a + b) ≤ max (nl a) (nl b) + 1 := by
  apply nl_le_of_lt
  have h1 : 256 ^ nl a ≤ 256 ^ max (nl a) (nl b) := Nat.pow_le_pow_right (by omega) (by omega)
  have h2 : 256 ^ nl b ≤ 256 ^ max (nl a) (nl b) := Nat.pow_le_pow_right (by omega) (by omega)
  have h3 := lt_pow_nl a
  have h4 := lt_pow_nl b
  rw [Nat.pow_succ]; omega
theorem nl_u64 {n : Nat} (h : n < 18446744073709551616) : nl n ≤ 8 := nl_le_of_lt (k := 8) (by omega)

theorem dlen_le (n : Nat) : (digitsOf 10 n).length ≤ 3 * nl n := by
  apply length_le_of_lt_pow (by omega)
  have h1 := lt_pow_nl n
  have h2 : (256 : Nat) ^ nl n ≤ 1000 ^ nl n := Nat.pow_le_pow_left (by omega) _
  rw [Nat.pow_mul, show (10 : Nat) ^ 3 = 1000 by decide]
  omega

/-- No more words than bytes. -/
theorem wlen_le (n : Nat) : (digitsOf W n).length ≤ nl n := by
  apply length_le_of_lt_pow (by decide)
  have h1 := lt_pow_nl n
  have h2 : (256 : Nat) ^ nl n ≤ W ^ nl n := Nat.pow_le_pow_left (by decide) _
  omega

/-- The order of two lists of digits of one length is decided at the highest place where they part. -/
theorem digs_lt_of_top {B : Nat} (hB : 0 < B) {xs ys : List Nat} (hx : AllLt B xs) (hl : xs.length = ys.length) (i : Nat) (hi : i < xs.length)
    (hlt : xs.getD i 0 < ys.getD i 0) (heq : ∀ j, i < j → xs.getD j 0 = ys.getD j 0) : digs B xs < digs B ys := by
  have e1 : xs = xs.take i ++ xs[i] :: xs.drop (i + 1) := by rw [← List.drop_eq_getElem_cons hi, List.take_append_drop]
  have e2 : ys = ys.take i ++ ys[i]'(by omega) :: ys.drop (i + 1) := by rw [← List.drop_eq_getElem_cons (by omega), List.take_append_drop]
  have e3 : xs.drop (i + 1) = ys.drop (i + 1) := by
    apply List.ext_getElem
    · simp [hl]
    · intro j h1 h2
      simp only [List.length_drop] at h1 h2
      have := heq (i + 1 + j) (by omega)
      rw [List.getD_eq_getElem?_getD, List.getD_eq_getElem?_getD, List.getElem?_eq_getElem (by omega), List.getElem?_eq_getElem (by omega)] at this
      simpa using this
  have g1 : xs.getD i 0 = xs[i] := by simp [List.getD_eq_getElem?_getD, hi]
  have g2 : ys.getD i 0 = ys[i]'(by omega) := by simp [List.getD_eq_getElem?_getD, show i < ys.length by omega]
  rw [g1, g2] at hlt
  have h3 := digs_lt hB (hx.take i)
  rw [e1, e2, digs_append, digs_append, digs_cons, digs_cons, e3]
  have l1 : (xs.take i).length = i := by simp; omega
  have l2 : (ys.take i).length = i := by simp; omega
  rw [l1] at h3
  rw [l1, l2]
  have h4 : B ^ i * (xs[i] + 1 + B * digs B (ys.drop (i + 1))) ≤ B ^ i * (ys[i]'(by omega) + B * digs B (ys.drop (i + 1))) := Nat.mul_le_mul_left _ (by omega)
  have h5 : B ^ i * (xs[i] + 1 + B * digs B (ys.drop (i + 1))) = B ^ i * (xs[i] + B * digs B (ys.drop (i + 1))) + B ^ i := by
    rw [Nat.add_right_comm, Nat.mul_add (B ^ i) _ 1, Nat.mul_one]
  have h6 := Nat.zero_le (digs B (ys.take i))
  omega

theorem lt_of_top {a b : Nat} (hl : nl a = nl b) (i : Nat) (hi : i < nl a) (hlt : (digitsOf 256 a).getD i 0 < (digitsOf 256 b).getD i 0)
    (heq : ∀ j, i < j → (digitsOf 256 a).getD j 0 = (digitsOf 256 b).getD j 0) : a < b := by
  have := digs_lt_of_top (B := 256) (by omega) (digitsOf_lt (by omega) a) hl i hi hlt heq
  rwa [digs_digitsOf (by omega), digs_digitsOf (by omega)] at this

theorem eq_of_all {a b : Nat} (hl : nl a = nl b) (heq : ∀ j, (digitsOf 256 a).getD j 0 = (digitsOf 256 b).getD j 0) : a = b := by
  apply digitsOf_inj (B := 256) (by omega)
  apply List.ext_getElem hl
  intro i h1 h2
  have := heq i
  simpa [List.getD_eq_getElem?_getD, h1, h2] using this

theorem lt_of_nl {a b : Nat} (h : nl a < nl b) : a < b := Nat.lt_of_lt_of_le (lt_pow_nl a) (pow_le_of_nl h)

/-- What Cmp answers. -/
def cmpI (a b : Nat) : Int := if a < b then -1 else if a = b then 0 else 1
theorem cmpI_lt {a b : Nat} (h : a < b) : cmpI a b = -1 := by simp [cmpI, h]
theorem cmpI_eq (a : Nat) : cmpI a a = 0 := by simp [cmpI]
theorem cmpI_gt {a b : Nat} (h : b < a) : cmpI a b = 1 := by
  unfold cmpI; rw [if_neg (by omega), if_neg (by omega)]

/-! ### Bits -/
theorem bitLenAux_eq : ∀ (f x : Nat), x < 2 ^ f → Lib.bitLenAux f x = (digitsOf 2 x).length
  | 0, x, h => by obtain rfl : x = 0 := by simpa using h
                  rfl
  | f + 1, x, h => by
    unfold Lib.bitLenAux
    by_cases h0 : x = 0
    · subst h0; simp [digitsOf_zero]
    · rw [if_neg h0, digitsOf_pos (by omega) (by omega), bitLenAux_eq f (x / 2) (by rw [Nat.pow_succ] at h; omega)]
      simp; omega
theorem bitLen_eq (x : Nat) (h : x < 18446744073709551616) : Lib.bitLen x = (digitsOf 2 x).length := bitLenAux_eq 64 x h

/-- How many binary digits a number has. -/
def blen (n : Nat) : Nat := (digitsOf 2 n).length

theorem length_unique {B n k : Nat} (hB : 2 ≤ B) (h1 : n < B ^ k) (h2 : k = 0 ∨ B ^ (k - 1) ≤ n) : (digitsOf B n).length = k := by
  apply Nat.le_antisymm (length_le_of_lt_pow hB k n h1)
  rcases h2 with rfl | h2
  · exact Nat.zero_le _
  · rcases Nat.lt_or_ge (digitsOf B n).length k with h | h
    · have := lt_pow_length hB n
      have : B ^ (digitsOf B n).length ≤ B ^ (k - 1) := Nat.pow_le_pow_right (by omega) (by omega)
      omega
    · exact h

theorem blen_bytes (n : Nat) (hn : n ≠ 0) : blen n = 8 * (nl n - 1) + blen ((digitsOf 256 n).getD (nl n - 1) 0) := by
  have hp : 0 < nl n := Nat.pos_of_ne_zero (fun h => hn (nl_eq_zero.1 h))
  have hlen : nl n - 1 < (digitsOf 256 n).length := by unfold nl at hp ⊢; omega
  obtain ⟨d, hd⟩ : ∃ d, d = (digitsOf 256 n).getD (nl n - 1) 0 := ⟨_, rfl⟩
  have hg : (digitsOf 256 n).getD (nl n - 1) 0 = (digitsOf 256 n)[nl n - 1] := by simp [List.getD_eq_getElem?_getD, hlen]
  have hsplit : digitsOf 256 n = (digitsOf 256 n).take (nl n - 1) ++ [d] := by
    rw [hd, hg, List.take_append_getElem]
    exact (List.take_of_length_le (by unfold nl at *; omega)).symm
  have hv : n = digs 256 ((digitsOf 256 n).take (nl n - 1)) + 256 ^ (nl n - 1) * d := by
    have := digs_snoc 256 ((digitsOf 256 n).take (nl n - 1)) d
    rw [← hsplit, digs_digitsOf (by omega), List.length_take, Nat.min_eq_left (by omega)] at this
    exact this
  have hlow := digs_lt (B := 256) (by omega) ((digitsOf_lt (B := 256) (by omega) n).take (nl n - 1))
  rw [List.length_take, Nat.min_eq_left (by omega)] at hlow
  have hd0 : d ≠ 0 := by
    have hc := digitsOf_canon (B := 256) (by omega) n
    unfold Canon at hc
    rw [hsplit, List.getLast?_append] at hc
    simpa using hc
  rw [← hd]
  generalize digs 256 ((digitsOf 256 n).take (nl n - 1)) = r at *
  have e256 : ∀ k, 256 ^ k = 2 ^ (8 * k) := fun k => by rw [Nat.pow_mul]
  rw [e256] at hv hlow
  have b1 := lt_pow_length (B := 2) (by omega) d
  have b3 : blen d ≠ 0 := by
    unfold blen
    intro h
    exact hd0 ((digitsOf_eq_nil (B := 2) (by omega)).1 (List.eq_nil_of_length_eq_zero h))
  have b2 := pow_le_of_length (B := 2) (by omega) d (blen d - 1) (by unfold blen at *; omega)
  generalize nl n - 1 = k at *
  have hbl : (digitsOf 2 d).length = blen d := rfl
  rw [hbl] at b1
  generalize blen d = m at *
  unfold blen
  apply length_unique (by omega)
  · rw [Nat.pow_add]
    have : 2 ^ (8 * k) * (d + 1) ≤ 2 ^ (8 * k) * 2 ^ m := Nat.mul_le_mul_left _ b1
    rw [Nat.mul_add] at this
    omega
  · right
    have : 8 * k + m - 1 = 8 * k + (m - 1) := by omega
    rw [this, Nat.pow_add]
    have := Nat.mul_le_mul_left (2 ^ (8 * k)) b2
    omega

/-- A number of 64 bits out of its bytes. -/
theorem digs_take_succ {B : Nat} (l : List Nat) (k : Nat) (h : k < l.length) : digs B (l.take (k + 1)) = digs B (l.take k) + B ^ k * l.getD k 0 := by
  rw [List.take_succ_eq_append_getElem h, digs_snoc, List.length_take, Nat.min_eq_left (by omega)]
  simp [List.getD_eq_getElem?_getD, h]

theorem u64_or_step (n k b : Nat) (hn : nl n ≤ 8) (hk : k < nl n) (hb : (digitsOf 256 n).getD k 0 = b) :
    bits BinOp.or IntKind.u64 (digs 256 ((digitsOf 256 n).take k) : Nat) ((b : Int) * 2 ^ (8 * k) % 18446744073709551616) = ((digs 256 ((digitsOf 256 n).take (k + 1)) : Nat) : Int) := by
  have h1 := (digitsOf_lt (B := 256) (by omega) n).getD (by omega) k
  have hlow := digs_lt (B := 256) (by omega) ((digitsOf_lt (B := 256) (by omega) n).take k)
  have hup := digs_lt (B := 256) (by omega) ((digitsOf_lt (B := 256) (by omega) n).take (k + 1))
  have hlen : k < (digitsOf 256 n).length := hk
  rw [List.length_take, Nat.min_eq_left (by omega)] at hlow hup
  rw [hb] at h1
  rw [digs_take_succ _ _ hlen, hb] at hup ⊢
  have e256 : ∀ k, 256 ^ k = 2 ^ (8 * k) := fun k => by rw [Nat.pow_mul]
  rw [e256] at hlow hup ⊢
  have hup2 : (256 : Nat) ^ (k + 1) ≤ 256 ^ 8 := Nat.pow_le_pow_right (by omega) (by omega)
  rw [e256, e256] at hup2
  generalize digs 256 ((digitsOf 256 n).take k) = x at *
  have hbig : b * 2 ^ (8 * k) < 18446744073709551616 := by
    rw [Nat.mul_comm]; rw [e256] at hup
    have : (2 : Nat) ^ (8 * 8) = 18446744073709551616 := by decide
    omega
  have hx : x < 18446744073709551616 := by
    have : (2 : Nat) ^ (8 * k) ≤ 2 ^ 64 := Nat.pow_le_pow_right (by omega) (by omega)
    have e : (2 : Nat) ^ 64 = 18446744073709551616 := by decide
    omega
  have e : (b : Int) * 2 ^ (8 * k) % 18446744073709551616 = ((b * 2 ^ (8 * k) : Nat) : Int) := by
    have : (b : Int) * 2 ^ (8 * k) = ((b * 2 ^ (8 * k) : Nat) : Int) := by simp
    rw [this]
    generalize b * 2 ^ (8 * k) = y at *
    omega
  rw [e, u64_or_nat _ _ hx hbig, or_high _ _ _ hlow, Nat.mul_comm]

end Num
end Go.Proofs.Ytbacloneddnaeaa

/- Carries and borrows along digits: plain laws. -/
namespace Go.Proofs.Ytbacloneddnaeaa
namespace Num

/-! ### Division by one word, from the highest digit down -/
def shr (B by_ : Nat) : List Nat → List Nat × Nat
  | [] => ([], 0)
  | d :: ds => let r := shr B by_ ds; ((r.2 * B + d) / by_ :: r.1, (r.2 * B + d) % by_)

theorem shr_length (B b : Nat) : ∀ l, (shr B b l).1.length = l.length
  | [] => rfl
  | d :: ds => by simp [shr, shr_length B b ds]

theorem shr_spec (B b : Nat) (hb : 0 < b) : ∀ l, digs B l = digs B (shr B b l).1 * b + (shr B b l).2 ∧ (shr B b l).2 < b
  | [] => by simp [shr, digs, hb]
  | d :: ds => by
    obtain ⟨h1, h2⟩ := shr_spec B b hb ds
    simp only [shr, digs]
    refine ⟨?_, Nat.mod_lt _ hb⟩
    have h3 := Nat.div_add_mod ((shr B b ds).2 * B + d) b
    generalize ((shr B b ds).2 * B + d) / b = q at *
    generalize ((shr B b ds).2 * B + d) % b = r at *
    rw [h1]
    grind

theorem shr_lt (B b : Nat) (hb : 0 < b) : ∀ l, AllLt B l → AllLt B (shr B b l).1
  | [], _ => AllLt.nil B
  | d :: ds, h => by
    have h2 := (shr_spec B b hb ds).2
    have hd : d < B := h d (by simp)
    refine AllLt.cons ?_ (shr_lt B b hb ds (fun x hx => h x (by simp [hx])))
    rw [Nat.div_lt_iff_lt_mul hb]
    calc (shr B b ds).2 * B + d < (shr B b ds).2 * B + B := by omega
      _ = ((shr B b ds).2 + 1) * B := by rw [Nat.add_mul, Nat.one_mul]
      _ ≤ b * B := Nat.mul_le_mul_right _ h2
      _ = B * b := Nat.mul_comm _ _

theorem shr_digs (B b : Nat) (hb : 0 < b) (l : List Nat) : digs B (shr B b l).1 = digs B l / b ∧ (shr B b l).2 = digs B l % b := by
  obtain ⟨h1, h2⟩ := shr_spec B b hb l
  rw [h1]
  constructor
  · rw [Nat.mul_comm, Nat.mul_add_div hb, Nat.div_eq_of_lt h2, Nat.add_zero]
  · rw [Nat.mul_comm, Nat.mul_add_mod, Nat.mod_eq_of_lt h2]

/-! ### A carry, from the lowest digit up -/
def cl (B : Nat) (c : Nat) : List Nat → List Nat × Nat
  | [] => ([], c)
  | t :: ts => let r := cl B ((c + t) / B) ts; ((c + t) % B :: r.1, r.2)

theorem cl_length (B : Nat) : ∀ (l : List Nat) (c : Nat), (cl B c l).1.length = l.length
  | [], _ => rfl
  | t :: ts, c => by simp [cl, cl_length B ts]

theorem cl_digs (B : Nat) : ∀ (l : List Nat) (c : Nat), digs B (cl B c l).1 + B ^ l.length * (cl B c l).2 = c + digs B l
  | [], c => by simp [cl, digs]
  | t :: ts, c => by
    have h := cl_digs B ts ((c + t) / B)
    have h3 := Nat.div_add_mod (c + t) B
    simp only [cl, digs, List.length_cons, Nat.pow_succ]
    generalize (cl B ((c + t) / B) ts).2 = z at *
    generalize digs B (cl B ((c + t) / B) ts).1 = y at *
    generalize (c + t) / B = q at *
    generalize (c + t) % B = r at *
    generalize B ^ ts.length = p at *
    grind

theorem cl_lt (B : Nat) (hB : 0 < B) : ∀ (l : List Nat) (c : Nat), AllLt B (cl B c l).1
  | [], _ => AllLt.nil B
  | _ :: ts, _c => AllLt.cons (Nat.mod_lt _ hB) (cl_lt B hB ts _)

theorem cl_snoc (B : Nat) : ∀ (l : List Nat) (c t : Nat), cl B c (l ++ [t]) = ((cl B c l).1 ++ [((cl B c l).2 + t) % B], ((cl B c l).2 + t) / B)
  | [], c, t => rfl
  | x :: xs, c, t => by simp [cl, cl_snoc B xs]

/-- The carry stays below the base. -/
theorem cl_carry (B : Nat) (hB : 0 < B) : ∀ (l : List Nat) (c : Nat), c < B → (∀ t ∈ l, t ≤ B * (B - 1)) → (cl B c l).2 < B
  | [], c, hc, _ => hc
  | t :: ts, c, hc, h => by
    refine cl_carry B hB ts _ ?_ (fun x hx => h x (by simp [hx]))
    have ht := h t (by simp)
    rw [Nat.div_lt_iff_lt_mul hB]
    have : B * (B - 1) + B = B * B := by
      obtain ⟨b, rfl⟩ : ∃ b, B = b + 1 := ⟨B - 1, by omega⟩
      simp [Nat.mul_add]
    omega

theorem cl_take_succ (B c : Nat) (l : List Nat) (k : Nat) (h : k < l.length) :
    cl B c (l.take (k + 1)) = ((cl B c (l.take k)).1 ++ [((cl B c (l.take k)).2 + l.getD k 0) % B], ((cl B c (l.take k)).2 + l.getD k 0) / B) := by
  rw [List.take_succ_eq_append_getElem h, cl_snoc]
  simp [List.getD_eq_getElem?_getD, h]

/-- A list whose head part has been done. -/
theorem set_done {done : List Nat} {xs : List Nat} {k v : Nat} (hd : done.length = k) (hk : k < xs.length) :
    (done ++ xs.drop k).set k v = done ++ [v] ++ xs.drop (k + 1) := by
  rw [List.set_append_right _ _ (by omega), hd, Nat.sub_self, List.drop_eq_getElem_cons hk, List.set_cons_zero, List.append_assoc]
  rfl

theorem get_done {done xs : List Nat} {k i : Nat} (hd : done.length = k) (hi : k ≤ i) : (done ++ xs.drop k)[i]? = xs[i]? := by
  rw [List.getElem?_append_right (by omega), List.getElem?_drop, hd]
  congr 1; omega

theorem digs_map_mul (B f : Nat) : ∀ l, digs B (l.map (· * f)) = digs B l * f
  | [] => by simp [digs]
  | d :: l => by simp only [List.map_cons, digs, digs_map_mul B f l]; grind

/-- Two lists added digit by digit. -/
def addL (xs ys : List Nat) : List Nat := List.zipWith (· + ·) xs ys
theorem digs_addL (B : Nat) : ∀ (xs ys : List Nat), xs.length = ys.length → digs B (addL xs ys) = digs B xs + digs B ys
  | [], [], _ => rfl
  | x :: xs, y :: ys, h => by
    simp only [addL, List.zipWith_cons_cons, digs]
    have := digs_addL B xs ys (by simpa using h)
    unfold addL at this
    rw [this]; grind
theorem addL_length (xs ys : List Nat) (h : xs.length = ys.length) : (addL xs ys).length = xs.length := by simp [addL, h]
theorem addL_getD (xs ys : List Nat) (h : xs.length = ys.length) (k : Nat) : (addL xs ys).getD k 0 = xs.getD k 0 + ys.getD k 0 := by
  simp only [addL, List.getD_eq_getElem?_getD, List.getElem?_zipWith]
  by_cases hk : k < xs.length
  · simp [hk, show k < ys.length by omega]
  · simp [List.getElem?_eq_none (show xs.length ≤ k by omega), List.getElem?_eq_none (show ys.length ≤ k by omega)]
theorem addL_le {B : Nat} {xs ys : List Nat} (hB : 2 ≤ B) (hx : AllLt B xs) (hy : AllLt B ys) : ∀ t ∈ addL xs ys, t ≤ B * (B - 1) := by
  intro t ht
  unfold addL at ht
  rw [List.mem_iff_getElem?] at ht
  obtain ⟨i, hi⟩ := ht
  rw [List.getElem?_zipWith] at hi
  have hb : 2 * (B - 1) ≤ B * (B - 1) := Nat.mul_le_mul_right _ hB
  split at hi
  · rename_i a b h1 h2
    have := hx.get h1
    have := hy.get h2
    simp at hi
    omega
  · cases hi

end Num
end Go.Proofs.Ytbacloneddnaeaa

/- Borrows: plain laws. -/
namespace Go.Proofs.Ytbacloneddnaeaa
namespace Num

/-- One digit of a difference, and the borrow. -/
def sb1 (B b x y : Nat) : Nat := if y + b ≤ x then x - y - b else x + B - y - b
def sb2 (b x y : Nat) : Nat := if y + b ≤ x then 0 else 1

/-- Differences along digits. -/
def bl (B : Nat) (b : Nat) : List Nat → List Nat → List Nat × Nat
  | x :: xs, y :: ys => let r := bl B (sb2 b x y) xs ys; (sb1 B b x y :: r.1, r.2)
  | _, _ => ([], b)

theorem sb2_le (b x y : Nat) : sb2 b x y ≤ 1 := by unfold sb2; split <;> omega
theorem sb1_lt {B b x y : Nat} (hx : x < B) (hy : y < B) (hb : b ≤ 1) : sb1 B b x y < B := by unfold sb1; split <;> omega
theorem sb_eq {B b x y : Nat} (_hx : x < B) (hy : y < B) (hb : b ≤ 1) : x + B * sb2 b x y = y + b + sb1 B b x y := by unfold sb1 sb2; split <;> omega

theorem bl_length (B : Nat) : ∀ (xs ys : List Nat) (b : Nat), xs.length = ys.length → (bl B b xs ys).1.length = xs.length
  | [], _, _, _ => by simp [bl]
  | x :: xs, y :: ys, b, h => by simp [bl, bl_length B xs ys _ (by simpa using h)]

theorem bl_spec (B : Nat) : ∀ (xs ys : List Nat) (b : Nat), xs.length = ys.length → AllLt B xs → AllLt B ys → b ≤ 1 →
    digs B xs + B ^ xs.length * (bl B b xs ys).2 = digs B ys + b + digs B (bl B b xs ys).1 ∧ AllLt B (bl B b xs ys).1 ∧ (bl B b xs ys).2 ≤ 1
  | [], [], b, _, _, _, hb => by simp [bl, digs, AllLt.nil, hb]
  | x :: xs, y :: ys, b, h, hx, hy, hb => by
    have hx0 : x < B := hx x (by simp)
    have hy0 : y < B := hy y (by simp)
    obtain ⟨h1, h2, h3⟩ := bl_spec B xs ys (sb2 b x y) (by simpa using h) (fun d hd => hx d (by simp [hd])) (fun d hd => hy d (by simp [hd])) (sb2_le _ _ _)
    refine ⟨?_, AllLt.cons (sb1_lt hx0 hy0 hb) h2, h3⟩
    have h4 := sb_eq hx0 hy0 hb
    simp only [bl, digs, List.length_cons, Nat.pow_succ]
    generalize (bl B (sb2 b x y) xs ys).2 = z at *
    generalize digs B (bl B (sb2 b x y) xs ys).1 = o at *
    generalize sb1 B b x y = s at *
    generalize sb2 b x y = c at *
    generalize B ^ xs.length = p at *
    generalize digs B xs = u at *
    generalize digs B ys = v at *
    grind

theorem bl_snoc (B : Nat) : ∀ (xs ys : List Nat) (b x y : Nat), xs.length = ys.length →
    bl B b (xs ++ [x]) (ys ++ [y]) = ((bl B b xs ys).1 ++ [sb1 B (bl B b xs ys).2 x y], sb2 (bl B b xs ys).2 x y)
  | [], [], b, x, y, _ => rfl
  | u :: xs, v :: ys, b, x, y, h => by simp [bl, bl_snoc B xs ys _ x y (by simpa using h)]

theorem bl_take_succ (B b : Nat) (xs ys : List Nat) (k : Nat) (h : xs.length = ys.length) (hk : k < xs.length) :
    bl B b (xs.take (k + 1)) (ys.take (k + 1)) = ((bl B b (xs.take k) (ys.take k)).1 ++ [sb1 B (bl B b (xs.take k) (ys.take k)).2 (xs.getD k 0) (ys.getD k 0)], sb2 (bl B b (xs.take k) (ys.take k)).2 (xs.getD k 0) (ys.getD k 0)) := by
  rw [List.take_succ_eq_append_getElem hk, List.take_succ_eq_append_getElem (by omega), bl_snoc _ _ _ _ _ _ (by simp; omega)]
  simp [List.getD_eq_getElem?_getD, hk, show k < ys.length by omega]

/-- No borrow is left if the second number is not greater. -/
theorem bl_none {B : Nat} {xs ys : List Nat} (hB : 0 < B) (h : xs.length = ys.length) (hx : AllLt B xs) (hy : AllLt B ys) (hle : digs B ys ≤ digs B xs) :
    (bl B 0 xs ys).2 = 0 ∧ digs B (bl B 0 xs ys).1 = digs B xs - digs B ys := by
  obtain ⟨h1, h2, h3⟩ := bl_spec B xs ys 0 h hx hy (by omega)
  have h4 := digs_lt hB h2
  rw [bl_length B xs ys 0 h] at h4
  rcases (show (bl B 0 xs ys).2 = 0 ∨ (bl B 0 xs ys).2 = 1 by omega) with h5 | h5
  · rw [h5] at h1; exact ⟨h5, by omega⟩
  · rw [h5] at h1; omega

theorem wrap_u64 (n : Int) : IntKind.u64.wrap n = n % 18446744073709551616 := by simp [IntKind.wrap, IntKind.bits, IntKind.signed]

/-- The walk's spelling of a digit of a difference. -/
theorem sub_word (x y b : Nat) (hx : x < 4294967296) (hy : y < 4294967296) (hb : b ≤ 1) :
    IntKind.u64.wrap (IntKind.u64.wrap ((x : Int) - b) - y) % 4294967296 = (sb1 W b x y : Nat) ∧
    IntKind.u64.wrap (IntKind.u64.wrap ((x : Int) - b) - y) / 9223372036854775808 = (sb2 b x y : Nat) := by
  simp only [wrap_u64]
  unfold sb1 sb2 W
  split <;> constructor <;> omega
theorem sub_word0 (x b : Nat) (hx : x < 4294967296) (hb : b ≤ 1) :
    IntKind.u64.wrap ((x : Int) - b) % 4294967296 = (sb1 W b x 0 : Nat) ∧
    IntKind.u64.wrap ((x : Int) - b) / 9223372036854775808 = (sb2 b x 0 : Nat) := by
  simp only [wrap_u64]
  unfold sb1 sb2 W
  split <;> constructor <;> omega

end Num
end Go.Proofs.Ytbacloneddnaeaa

/- Products: plain laws. -/
namespace Go.Proofs.Ytbacloneddnaeaa
namespace Num

/-- What the inner loop of Mul adds up at row i. -/
def mulT (O Y : List Nat) (i f : Nat) : List Nat := addL ((O.drop i).take Y.length) (Y.map (f * ·))
/-- The words after row i. -/
def mulO (O Y : List Nat) (i f : Nat) : List Nat :=
  O.take i ++ (cl W 0 (mulT O Y i f)).1 ++ [(cl W 0 (mulT O Y i f)).2] ++ O.drop (i + Y.length + 1)

theorem mulT_len0 (O Y : List Nat) (i : Nat) (h : i + Y.length ≤ O.length) : ((O.drop i).take Y.length).length = Y.length := by
  rw [List.length_take, List.length_drop]; omega
theorem mulT_length (O Y : List Nat) (i f : Nat) (h : i + Y.length ≤ O.length) : (mulT O Y i f).length = Y.length := by
  unfold mulT
  rw [addL_length _ _ (by rw [mulT_len0 _ _ _ h]; simp), mulT_len0 _ _ _ h]
theorem mulT_getD (O Y : List Nat) (i f k : Nat) (h : i + Y.length ≤ O.length) (hk : k < Y.length) : (mulT O Y i f).getD k 0 = O.getD (i + k) 0 + f * Y.getD k 0 := by
  unfold mulT
  rw [addL_getD _ _ (by rw [mulT_len0 _ _ _ h]; simp), getD_take, if_pos hk, getD_drop]
  congr 1
  simp [List.getD_eq_getElem?_getD, hk]

theorem digs_map_mul' (B f : Nat) (l : List Nat) : digs B (l.map (f * ·)) = f * digs B l := by
  have := digs_map_mul B f l
  rw [Nat.mul_comm f, ← this]
  congr 1
  apply List.map_congr_left
  intro x _; exact Nat.mul_comm _ _

theorem mulT_le (O Y : List Nat) (i f : Nat) (hO : AllLt W O) (hY : AllLt W Y) (hf : f < W) : ∀ t ∈ mulT O Y i f, t ≤ W * (W - 1) := by
  intro t ht
  unfold mulT addL at ht
  rw [List.mem_iff_getElem?] at ht
  obtain ⟨j, hj⟩ := ht
  rw [List.getElem?_zipWith] at hj
  split at hj
  · rename_i a b h1 h2
    have ha := ((hO.drop i).take Y.length).get h1
    rw [List.getElem?_map] at h2
    obtain ⟨y, hy, rfl⟩ := Option.map_eq_some_iff.1 h2
    have hy2 := hY.get hy
    have : f * y ≤ (W - 1) * (W - 1) := Nat.mul_le_mul (by omega) (by omega)
    simp at hj
    unfold W at *
    omega
  · cases hj

theorem mul_step (O Y : List Nat) (i f : Nat) (h : i + Y.length < O.length) (hz : digs W (O.drop (i + Y.length)) = 0) :
    digs W (mulO O Y i f) = digs W O + W ^ i * (f * digs W Y) ∧ (mulO O Y i f).length = O.length := by
  have hl := mulT_len0 O Y i (by omega)
  have hc := cl_digs W (mulT O Y i f) 0
  have hcl := cl_length W (mulT O Y i f) 0
  rw [mulT_length O Y i f (by omega)] at hcl hc
  have ht : digs W (mulT O Y i f) = digs W ((O.drop i).take Y.length) + f * digs W Y := by
    unfold mulT
    rw [digs_addL _ _ _ (by rw [hl]; simp), digs_map_mul']
  have e1 : O = O.take i ++ ((O.drop i).take Y.length ++ O.drop (i + Y.length)) := by
    rw [← List.drop_drop, List.take_append_drop, List.take_append_drop]
  have hd1 : digs W (O.drop (i + Y.length + 1)) = 0 := by
    rw [List.drop_eq_getElem_cons (by omega), digs] at hz
    have hW : (0 : Nat) < W := by decide
    have := Nat.eq_zero_of_add_eq_zero_left hz
    rcases Nat.mul_eq_zero.1 this with h1 | h1
    · omega
    · exact h1
  have hti : (O.take i).length = i := by rw [List.length_take]; omega
  have eO : digs W O = digs W (O.take i) + W ^ i * digs W ((O.drop i).take Y.length) := by
    conv => lhs; rw [e1, digs_append, digs_append, hz, hti]
    simp
  constructor
  · unfold mulO
    rw [List.append_assoc, List.append_assoc, digs_append, digs_append, digs_append, hd1, hti, hcl, eO]
    simp only [digs, Nat.mul_zero, Nat.add_zero]
    rw [ht] at hc
    generalize digs W (cl W 0 (mulT O Y i f)).1 = u at *
    generalize (cl W 0 (mulT O Y i f)).2 = v at *
    generalize digs W ((O.drop i).take Y.length) = x at *
    generalize digs W Y = y at *
    generalize W ^ Y.length = p at *
    rw [hc]
    generalize W ^ i = q
    grind
  · unfold mulO
    simp only [List.length_append, List.length_drop, List.length_cons, List.length_nil, hti, hcl]
    omega

theorem mul_zeros (O Y : List Nat) (i f : Nat) (h : i + Y.length < O.length) (hz : digs W (O.drop (i + Y.length)) = 0) :
    digs W ((mulO O Y i f).drop (i + 1 + Y.length)) = 0 := by
  have hcl := cl_length W (mulT O Y i f) 0
  rw [mulT_length O Y i f (by omega)] at hcl
  have hti : (O.take i).length = i := by rw [List.length_take]; omega
  unfold mulO
  rw [List.drop_append, List.drop_eq_nil_of_le (by simp [hti, hcl]; omega), List.nil_append]
  have : (O.take i ++ (cl W 0 (mulT O Y i f)).1 ++ [(cl W 0 (mulT O Y i f)).2]).length = i + Y.length + 1 := by simp [hti, hcl]; omega
  rw [this, show i + 1 + Y.length - (i + Y.length + 1) = 0 by omega, List.drop_zero]
  rw [List.drop_eq_getElem_cons (by omega), digs] at hz
  have hW : (0 : Nat) < W := by decide
  have := Nat.eq_zero_of_add_eq_zero_left hz
  rcases Nat.mul_eq_zero.1 this with h1 | h1
  · omega
  · exact h1

theorem mulO_lt (O Y : List Nat) (i f : Nat) (hO : AllLt W O) (hY : AllLt W Y) (hf : f < W) : AllLt W (mulO O Y i f) := by
  unfold mulO
  refine ((((hO.take i).append (cl_lt W (by decide) _ _)).append (AllLt.cons ?_ (AllLt.nil W))).append (hO.drop _))
  exact cl_carry W (by decide) _ _ (by decide) (mulT_le O Y i f hO hY hf)

/-- In the middle of row i. -/
def mulM (O Y : List Nat) (i f k : Nat) : List Nat := O.take i ++ (cl W 0 ((mulT O Y i f).take k)).1 ++ O.drop (i + k)

theorem mulM_zero (O Y : List Nat) (i f : Nat) : mulM O Y i f 0 = O := by simp [mulM, cl]

theorem mulM_done (O Y : List Nat) (i f k : Nat) (h : i + Y.length < O.length) (hk : k ≤ Y.length) :
    (O.take i ++ (cl W 0 ((mulT O Y i f).take k)).1).length = i + k := by
  rw [List.length_append, cl_length, List.length_take, List.length_take, mulT_length O Y i f (by omega)]; omega

theorem mulM_get (O Y : List Nat) (i f k : Nat) (h : i + Y.length < O.length) (hk : k ≤ Y.length) : (mulM O Y i f k)[i + k]? = some (O.getD (i + k) 0) := by
  unfold mulM
  rw [get_done (mulM_done O Y i f k h hk) (Nat.le_refl _), List.getD_eq_getElem?_getD, List.getElem?_eq_getElem (by omega)]; rfl

theorem mulM_set (O Y : List Nat) (i f k : Nat) (h : i + Y.length < O.length) (hk : k < Y.length) :
    (mulM O Y i f k).set (i + k) (((cl W 0 ((mulT O Y i f).take k)).2 + (O.getD (i + k) 0 + f * Y.getD k 0)) % W) = mulM O Y i f (k + 1) := by
  have h2 := cl_take_succ W 0 (mulT O Y i f) k (by rw [mulT_length O Y i f (by omega)]; exact hk)
  rw [mulT_getD O Y i f k (by omega) hk] at h2
  unfold mulM
  rw [set_done (mulM_done O Y i f k h (by omega)) (by omega), h2]
  simp [Nat.add_assoc]

theorem mulM_last (O Y : List Nat) (i f : Nat) (h : i + Y.length < O.length) :
    (mulM O Y i f Y.length).set (i + Y.length) (cl W 0 (mulT O Y i f)).2 = mulO O Y i f := by
  have ht : (mulT O Y i f).take Y.length = mulT O Y i f := List.take_of_length_le (by rw [mulT_length O Y i f (by omega)]; omega)
  unfold mulM mulO
  rw [set_done (mulM_done O Y i f Y.length h (Nat.le_refl _)) (by omega), ht]

end Num
end Go.Proofs.Ytbacloneddnaeaa

/- Long division: plain laws. -/
namespace Go.Proofs.Ytbacloneddnaeaa
namespace Num

/-! ### A multiple is taken away -/
def ta1 (x r : Nat) : Nat := if x < r then x + W - r else x - r
def ta2 (x r p : Nat) : Nat := p / W + if x < r then 1 else 0

def ta (d : Nat) : Nat → List Nat → List Nat → List Nat × Nat
  | b, x :: xs, y :: ys => let p := d * y + b; let t := ta d (ta2 x (p % W) p) xs ys; (ta1 x (p % W) :: t.1, t.2)
  | b, _, _ => ([], b)

theorem ta_length (d : Nat) : ∀ (xs ys : List Nat) (b : Nat), xs.length = ys.length → (ta d b xs ys).1.length = xs.length
  | [], _, _, _ => by simp [ta]
  | x :: xs, y :: ys, b, h => by simp [ta, ta_length d xs ys _ (by simpa using h)]

theorem ta_snoc (d : Nat) : ∀ (xs ys : List Nat) (b x y : Nat), xs.length = ys.length →
    ta d b (xs ++ [x]) (ys ++ [y]) = ((ta d b xs ys).1 ++ [ta1 x ((d * y + (ta d b xs ys).2) % W)], ta2 x ((d * y + (ta d b xs ys).2) % W) (d * y + (ta d b xs ys).2))
  | [], [], b, x, y, _ => rfl
  | u :: xs, v :: ys, b, x, y, h => by simp [ta, ta_snoc d xs ys _ x y (by simpa using h)]

theorem ta_take_succ (d b : Nat) (xs ys : List Nat) (k : Nat) (h : xs.length = ys.length) (hk : k < xs.length) :
    ta d b (xs.take (k + 1)) (ys.take (k + 1)) = ((ta d b (xs.take k) (ys.take k)).1 ++ [ta1 (xs.getD k 0) ((d * ys.getD k 0 + (ta d b (xs.take k) (ys.take k)).2) % W)],
      ta2 (xs.getD k 0) ((d * ys.getD k 0 + (ta d b (xs.take k) (ys.take k)).2) % W) (d * ys.getD k 0 + (ta d b (xs.take k) (ys.take k)).2)) := by
  rw [List.take_succ_eq_append_getElem hk, List.take_succ_eq_append_getElem (by omega), ta_snoc _ _ _ _ _ _ (by simp; omega)]
  simp [List.getD_eq_getElem?_getD, hk, show k < ys.length by omega]

theorem ta2_lt {x y b d : Nat} (hy : y < W) (hb : b < W) (hd : d < W) : ta2 x ((d * y + b) % W) (d * y + b) < W := by
  have h1 : d * y ≤ (W - 1) * (W - 1) := Nat.mul_le_mul (by omega) (by omega)
  unfold ta2 W at *
  generalize d * y = p at *
  split <;> omega

theorem ta1_lt {x r : Nat} (hx : x < W) (hr : r < W) : ta1 x r < W := by unfold ta1; split <;> omega

theorem ta_eq (x r p : Nat) (_hx : x < W) (hr : r = p % W) : x + W * ta2 x r p = p + ta1 x r := by
  subst hr
  unfold ta1 ta2
  have := Nat.div_add_mod p W
  have := Nat.mod_lt p (show 0 < W by decide)
  split
  · rw [Nat.mul_add]; omega
  · rw [Nat.mul_add]; omega

theorem ta_spec (d : Nat) (hd : d < W) : ∀ (xs ys : List Nat) (b : Nat), xs.length = ys.length → AllLt W xs → AllLt W ys → b < W →
    digs W xs + W ^ xs.length * (ta d b xs ys).2 = d * digs W ys + b + digs W (ta d b xs ys).1 ∧ AllLt W (ta d b xs ys).1 ∧ (ta d b xs ys).2 < W
  | [], [], b, _, _, _, hb => by simp [ta, digs, AllLt.nil, hb]
  | x :: xs, y :: ys, b, h, hx, hy, hb => by
    have hx0 : x < W := hx x (by simp)
    have hy0 : y < W := hy y (by simp)
    have hm := Nat.mod_lt (d * y + b) (show 0 < W by decide)
    obtain ⟨h1, h2, h3⟩ := ta_spec d hd xs ys (ta2 x ((d * y + b) % W) (d * y + b)) (by simpa using h) (fun z hz => hx z (by simp [hz])) (fun z hz => hy z (by simp [hz])) (ta2_lt hy0 hb hd)
    refine ⟨?_, AllLt.cons (ta1_lt hx0 hm) h2, h3⟩
    have h4 := ta_eq x ((d * y + b) % W) (d * y + b) hx0 rfl
    simp only [ta, digs, List.length_cons, Nat.pow_succ]
    generalize (ta d (ta2 x ((d * y + b) % W) (d * y + b)) xs ys).2 = z at *
    generalize digs W (ta d (ta2 x ((d * y + b) % W) (d * y + b)) xs ys).1 = o at *
    generalize ta1 x ((d * y + b) % W) = s at *
    generalize ta2 x ((d * y + b) % W) (d * y + b) = c at *
    generalize W ^ xs.length = p at *
    generalize digs W xs = u at *
    generalize digs W ys = v at *
    generalize W = w at *
    grind

/-- The highest digit, too. -/
theorem ta_top (d : Nat) (hd : d < W) (xs ys : List Nat) (t : Nat) (h : xs.length = ys.length) (hx : AllLt W xs) (hy : AllLt W ys) (_ht : t < W) :
    (t < (ta d 0 xs ys).2 ↔ digs W (xs ++ [t]) < d * digs W ys) ∧
    digs W ((ta d 0 xs ys).1 ++ [ta1 t (ta d 0 xs ys).2]) = (if digs W (xs ++ [t]) < d * digs W ys then digs W (xs ++ [t]) + W ^ (xs.length + 1) - d * digs W ys else digs W (xs ++ [t]) - d * digs W ys) := by
  obtain ⟨h1, h2, h3⟩ := ta_spec d hd xs ys 0 h hx hy (by decide)
  have hl := ta_length d xs ys 0 h
  have hlo := digs_lt (show 0 < W by decide) h2
  rw [hl] at hlo
  rw [digs_snoc, digs_snoc, hl, Nat.pow_succ]
  generalize (ta d 0 xs ys).2 = b at *
  generalize digs W (ta d 0 xs ys).1 = o at *
  generalize digs W xs = u at *
  generalize d * digs W ys = v at *
  generalize hp : W ^ xs.length = p at *
  by_cases htb : t < b
  · have e1 : p * (t + 1) ≤ p * b := Nat.mul_le_mul_left _ htb
    rw [Nat.mul_add] at e1
    have hlt : u + p * t < v := by omega
    refine ⟨⟨fun _ => hlt, fun _ => htb⟩, ?_⟩
    rw [if_pos hlt]
    unfold ta1
    rw [if_pos htb]
    have e2 : p * (t + W - b) + p * b = p * t + p * W := by rw [← Nat.mul_add, ← Nat.mul_add]; congr 1; omega
    omega
  · have e1 : p * b ≤ p * t := Nat.mul_le_mul_left _ (by omega)
    have hlt : ¬ u + p * t < v := by omega
    refine ⟨⟨fun h => absurd h htb, fun h => absurd h hlt⟩, ?_⟩
    rw [if_neg hlt]
    unfold ta1
    rw [if_neg htb]
    have e2 : p * (t - b) + p * b = p * t := by rw [← Nat.mul_add]; congr 1; omega
    omega

/-! ### Given back -/
theorem gb_top (xs ys : List Nat) (t : Nat) (h : xs.length = ys.length) :
    digs W ((cl W 0 (addL xs ys)).1 ++ [(t + (cl W 0 (addL xs ys)).2) % W]) = (digs W (xs ++ [t]) + digs W ys) % W ^ (xs.length + 1) := by
  have h1 := cl_digs W (addL xs ys) 0
  have hl := cl_length W (addL xs ys) 0
  have hlt := digs_lt (show 0 < W by decide) (cl_lt W (by decide) (addL xs ys) 0)
  rw [addL_length _ _ h] at h1 hl
  rw [hl] at hlt
  rw [digs_addL _ _ _ h] at h1
  rw [digs_snoc, digs_snoc, hl, Nat.pow_succ]
  generalize (cl W 0 (addL xs ys)).2 = b at *
  generalize digs W (cl W 0 (addL xs ys)).1 = o at *
  generalize digs W xs = u at *
  generalize digs W ys = v at *
  generalize hp : W ^ xs.length = p at *
  have e1 : u + p * t + v = o + p * (t + b) := by rw [Nat.mul_add]; omega
  have e2 := Nat.div_add_mod (t + b) W
  have e3 := Nat.mod_lt (t + b) (show 0 < W by decide)
  rw [e1]
  generalize (t + b) / W = q at *
  generalize (t + b) % W = r at *
  rw [← e2]
  have e4 : o + p * (W * q + r) = o + p * r + p * W * q := by rw [Nat.mul_add, Nat.mul_assoc]; omega
  rw [e4, Nat.add_mul_mod_self_left, Nat.mod_eq_of_lt]
  have e5 : p * (r + 1) ≤ p * W := Nat.mul_le_mul_left _ e3
  rw [Nat.mul_add] at e5
  omega

/-! ### The digit of a quotient -/

/-- Of a guess d for u / v, where yy are the two leading digits of v, and t3 the three of u. -/
theorem guess_ge {u v yy t3 m d : Nat} (hv : yy * m ≤ v) (hu : u < (t3 + 1) * m) (hd : t3 < d * yy) : u / v < d := by
  have hv0 : 0 < v := by
    rcases Nat.eq_zero_or_pos v with h | h
    · subst h
      have : yy * m = 0 := by omega
      rcases Nat.mul_eq_zero.1 this with h1 | h1
      · subst h1; simp at hd
      · subst h1; simp at hu
    · exact h
  rw [Nat.div_lt_iff_lt_mul hv0]
  calc u < (t3 + 1) * m := hu
    _ ≤ (d * yy) * m := Nat.mul_le_mul_right _ hd
    _ = d * (yy * m) := Nat.mul_assoc _ _ _
    _ ≤ d * v := Nat.mul_le_mul_left _ hv

theorem guess_le {u v yy t3 m d : Nat} (_hm : 0 < m) (hv : v < (yy + 1) * m) (hv0 : 0 < v) (hu : t3 * m ≤ u) (hd : d * yy ≤ t3) (hyy : d ≤ yy) : d ≤ u / v + 1 := by
  rcases Nat.lt_or_ge (u / v + 1) d with h | h
  · exfalso
    have h1 : u < (u / v + 1) * v := Nat.lt_mul_of_div_lt (Nat.lt_succ_self _) hv0
    generalize u / v = q at *
    obtain ⟨e, rfl⟩ : ∃ e, d = e + 1 := ⟨d - 1, by omega⟩
    have h2 : (q + 1) * v ≤ e * v := Nat.mul_le_mul_right _ (by omega)
    have h3 : e * v ≤ e * ((yy + 1) * m) := Nat.mul_le_mul_left _ (Nat.le_of_lt hv)
    have h4 : (e + 1) * yy * m ≤ u := Nat.le_trans (Nat.mul_le_mul_right _ hd) hu
    have h5 : (e + 1) * yy * m < e * ((yy + 1) * m) := by omega
    rw [← Nat.mul_assoc] at h5
    have h6 := Nat.lt_of_mul_lt_mul_right h5
    rw [Nat.add_mul, Nat.mul_add] at h6
    omega
  · exact h

end Num
end Go.Proofs.Ytbacloneddnaeaa

/- Decimal forms: plain laws. -/
namespace Go.Proofs.Ytbacloneddnaeaa
namespace Num

/-- The number of decimal digits, the highest one first (codes of bytes). -/
def decVal (l : List Nat) : Nat := l.foldl (fun a c => 10 * a + (c - 48)) 0

/-- Is it a decimal form of at most 2000 bytes? -/
def decOk (l : List Nat) : Bool := !l.isEmpty && decide (l.length ≤ 2000) && !(decide (1 < l.length) && l.getD 0 0 == 48) && l.all fun c => decide (48 ≤ c) && decide (c ≤ 57)

def readN (l : List Nat) : Option Nat := if decOk l then some (decVal l) else none

theorem decVal_snoc (l : List Nat) (c : Nat) : decVal (l ++ [c]) = 10 * decVal l + (c - 48) := by simp [decVal]
theorem decVal_take_succ (l : List Nat) (k : Nat) (h : k < l.length) : decVal (l.take (k + 1)) = 10 * decVal (l.take k) + (l.getD k 0 - 48) := by
  rw [List.take_succ_eq_append_getElem h, decVal_snoc]
  simp [List.getD_eq_getElem?_getD, h]

/-- The decimal form of a number, as codes of bytes. -/
def decL (n : Nat) : List Nat := if n = 0 then [48] else ((digitsOf 10 n).map (· + 48)).reverse
def dec (n : Nat) : ByteArray := mkStr (decL n)

theorem decVal_rev : ∀ (ds : List Nat), decVal ((ds.map (· + 48)).reverse) = digs 10 ds
  | [] => rfl
  | d :: ds => by
    rw [List.map_cons, List.reverse_cons, decVal_snoc, decVal_rev ds, digs]
    omega

theorem decVal_decL (n : Nat) : decVal (decL n) = n := by
  unfold decL
  split
  · rename_i h; subst h; rfl
  · rw [decVal_rev, digs_digitsOf (by omega)]

theorem decL_digit (n : Nat) : ∀ c ∈ decL n, 48 ≤ c ∧ c ≤ 57 := by
  intro c hc
  unfold decL at hc
  split at hc
  · simp at hc; omega
  · rw [List.mem_reverse] at hc
    obtain ⟨d, hd, rfl⟩ := List.mem_map.1 hc
    have := digitsOf_lt (B := 10) (by omega) n d hd
    omega

theorem decL_lt (n : Nat) : AllLt 256 (decL n) := fun c hc => by have := decL_digit n c hc; omega
theorem decL_ne (n : Nat) : decL n ≠ [] := by
  unfold decL
  split
  · simp
  · rename_i h
    intro h2
    rw [List.reverse_eq_nil_iff, List.map_eq_nil_iff] at h2
    exact h ((digitsOf_eq_nil (by omega)).1 h2)

theorem decL_head (n : Nat) (h : 1 < (decL n).length) : (decL n).getD 0 0 ≠ 48 := by
  unfold decL at h ⊢
  split
  · rename_i h0; rw [if_pos h0] at h; simp at h
  · rename_i h0
    have hne : digitsOf 10 n ≠ [] := fun h2 => h0 ((digitsOf_eq_nil (by omega)).1 h2)
    have hc := digitsOf_canon (B := 10) (by omega) n
    unfold Canon at hc
    intro h1
    apply hc
    have : ((digitsOf 10 n).map (· + 48)).reverse.head? = some 48 := by
      cases hr : ((digitsOf 10 n).map (· + 48)).reverse with
      | nil => simp at hr; exact absurd hr hne
      | cons a t => rw [hr] at h1; simpa using h1
    rw [List.head?_reverse, List.getLast?_map] at this
    simpa using this

theorem decOk_decL (n : Nat) (h : (decL n).length ≤ 2000) : decOk (decL n) = true := by
  have h1 := decL_ne n
  unfold decOk
  simp only [Bool.and_eq_true, Bool.not_eq_true', List.isEmpty_eq_false_iff, decide_eq_true_eq, List.all_eq_true]
  refine ⟨⟨⟨h1, h⟩, ?_⟩, fun c hc => decL_digit n c hc⟩
  by_cases h2 : 1 < (decL n).length
  · have := decL_head n h2
    simp only [Bool.and_eq_false_iff, beq_eq_false_iff_ne]
    exact .inr this
  · simp [h2]

theorem readN_decL (n : Nat) (h : (decL n).length ≤ 2000) : readN (decL n) = some n := by
  unfold readN; rw [if_pos (decOk_decL n h), decVal_decL]

/-- A decimal form is that of its number. -/
theorem decL_decVal (l : List Nat) (h : decOk l = true) : decL (decVal l) = l := by
  unfold decOk at h
  simp only [Bool.and_eq_true, Bool.not_eq_true', List.isEmpty_eq_false_iff, decide_eq_true_eq, List.all_eq_true, Bool.and_eq_false_iff, decide_eq_false_iff_not, beq_eq_false_iff_ne] at h
  obtain ⟨⟨⟨hne, _⟩, hh⟩, hd⟩ := h
  obtain ⟨ds, hds⟩ : ∃ ds : List Nat, ds = (l.map (· - 48)).reverse := ⟨_, rfl⟩
  have hl : l = (ds.map (· + 48)).reverse := by
    rw [hds, List.map_reverse, List.reverse_reverse, List.map_map]
    conv => lhs; rw [← List.map_id l]
    apply List.map_congr_left
    intro c hc
    have := hd c hc
    simp; omega
  have hlt : AllLt 10 ds := by
    intro d hd2
    rw [hds, List.mem_reverse] at hd2
    obtain ⟨c, hc, rfl⟩ := List.mem_map.1 hd2
    have := hd c hc
    omega
  have hval : decVal l = digs 10 ds := by rw [hl, decVal_rev]
  by_cases h0 : l = [48]
  · rw [h0]; rfl
  · have hcan : Canon ds := by
      unfold Canon
      rw [hds, List.getLast?_reverse, List.head?_map]
      intro hx
      cases hl2 : l with
      | nil => exact hne hl2
      | cons a t =>
        rw [hl2] at hx
        simp at hx
        have ha := hd a (by rw [hl2]; simp)
        have ha48 : a = 48 := by omega
        rcases hh with hh | hh
        · rw [hl2] at hh
          simp at hh
          rw [hl2, ha48, hh] at h0
          exact h0 rfl
        · rw [hl2, ha48] at hh
          exact hh (by simp)
    have hds0 : ds ≠ [] := by
      intro e; rw [e] at hds
      have := congrArg List.length hds
      simp at this
      exact hne (List.eq_nil_of_length_eq_zero this.symm)
    have hpos := digs_pos_of_canon (B := 10) (by omega) hcan hds0
    unfold decL
    rw [if_neg (by omega), hval, digitsOf_digs (by omega) hlt hcan, ← hl]

theorem dec_size (n : Nat) : (dec n).size = (decL n).length := by simp [dec, mkStr_size]
theorem bts_dec (n : Nat) : bts (dec n) = decL n := bts_mkStr (decL_lt n)
theorem mkStr_bts (s : ByteArray) : mkStr (bts s) = s := by
  cases s with
  | mk d =>
    unfold mkStr bts
    simp only [List.map_map, ByteArray.mk.injEq]
    have : (d.toList.map (UInt8.ofNat ∘ UInt8.toNat)) = d.toList := by
      conv => rhs; rw [← List.map_id d.toList]
      apply List.map_congr_left
      intro c _
      simp
    rw [this]
theorem dec_inj {a b : Nat} (h : dec a = dec b) : a = b := by
  have := congrArg (fun s => decVal (bts s)) h
  simpa [bts_dec, decVal_decL] using this
theorem dec_of_ok (s : ByteArray) (h : decOk (bts s) = true) : s = dec (decVal (bts s)) := by
  unfold dec; rw [decL_decVal _ h, mkStr_bts]

theorem decL_length_pos (n : Nat) : 0 < (decL n).length := List.length_pos_iff.2 (decL_ne n)
theorem decL_length (n : Nat) (h : n ≠ 0) : (decL n).length = (digitsOf 10 n).length := by
  unfold decL; rw [if_neg h]; simp
theorem decL_length_le (n k : Nat) (hk : 0 < k) (h : n < 10 ^ k) : (decL n).length ≤ k := by
  by_cases h0 : n = 0
  · subst h0; simp [decL]; omega
  · rw [decL_length n h0]; exact length_le_of_lt_pow (by omega) k n h

end Num
end Go.Proofs.Ytbacloneddnaeaa
