/- Texts of this claim, joined: NatB, NatC, NatF, NatG, NatH, NatI, NatJ. -/
import Derived.Test.YtbacloneddnaeaaM05
import Derived.Lib.BitFns

/- Numbers as bytes: lengths, order, bits: plain laws. -/
namespace Go.Proofs.Ytbacloneddnaeaa
namespace Num

theorem nb_size (n : Nat) : (nb n).size = nl n := by simp [nb, nl, mkStr_size]
theorem bts_nb (n : Nat) : bts (nb n) = digitsOf 256 n := bts_mkStr (digitsOf_lt (by omega) n)
theorem nb_get (n k : Nat) (h : k < (nb n).size) : ((nb n)[k]).toNat = (digitsOf 256 n).getD k 0 := by
  rw [← bts_getD _ _ h, bts_nb]
theorem nb_inj {a b : Nat} (h : nb a = nb b) : a = b := by
  have := congrArg bts h
  rw [bts_nb, bts_nb] at this
  exact digitsOf_inj (by omega) this
theorem natV_zero : natV 0 = .agg #[.string { data := #[] }] := rfl
theorem nl_zero : nl 0 = 0 := rfl
theorem nl_eq_zero {n : Nat} : nl n = 0 ↔ n = 0 := by
  unfold nl
  rw [List.length_eq_zero_iff]; exact digitsOf_eq_nil (by omega)

theorem nl_le_of_lt {n k : Nat} (h : n < 256 ^ k) : nl n ≤ k := length_le_of_lt_pow (by omega) k n h
theorem lt_pow_nl (n : Nat) : n < 256 ^ nl n := lt_pow_length (by omega) n
theorem nl_mono {a b : Nat} (h : a ≤ b) : nl a ≤ nl b := nl_le_of_lt (Nat.lt_of_le_of_lt h (lt_pow_nl b))
theorem pow_le_of_nl {n k : Nat} (h : k < nl n) : 256 ^ k ≤ n := pow_le_of_length (by omega) n k h
theorem nl_mul (a b : Nat) : nl (a * b) ≤ nl a + nl b := by
  apply nl_le_of_lt
  rw [Nat.pow_add]
  exact Nat.mul_lt_mul'' (lt_pow_nl a) (lt_pow_nl b)
theorem nl_add (a b : Nat) : nl (a + b) ≤ max (nl a) (nl b) + 1 := by
  apply nl_le_of_lt
  have h1 : 256 ^ nl a ≤ 256 ^ max (nl a) (nl b) := Nat.pow_le_pow_right (by omega) (by omega)
  have h2 : 256 ^ nl b ≤ 256 ^ max (nl a) (nl b) := Nat.pow_le_pow_right (by omega) (by omega)
  have h3 := lt_pow_nl a
  have h4 := lt_pow_nl b
  rw [Nat.pow_succ]; omega
theorem nl_u64 {n : Nat} (h : n < 18446744073709551616) : nl n ≤ 8 := nl_le_of_lt (k := 8) (by omega)

theorem dlen_le (n : Nat) : (digitsOf 10 n).length ≤ 3 * nl n := by
  apply length_le_of_lt_pow (by omega)
  have h1 := lt_pow_nl n
  have h2 : (256 : Nat) ^ nl n ≤ 1000 ^ nl n := Nat.pow_le_pow_left (by omega) _
  rw [Nat.pow_mul, show (10 : Nat) ^ 3 = 1000 by decide]
  omega

theorem wlen_le (n : Nat) : (digitsOf W n).length ≤ nl n := by
  apply length_le_of_lt_pow (by decide)
  have h1 := lt_pow_nl n
  have h2 : (256 : Nat) ^ nl n ≤ W ^ nl n := Nat.pow_le_pow_left (by decide) _
  omega

theorem digs_lt_of_top {B : Nat} (hB : 0 < B) {xs ys : List Nat} (hx : AllLt B xs) (hl : xs.length = ys.length) (i : Nat) (hi : i < xs.length)
    (hlt : xs.getD i 0 < ys.getD i 0) (heq : ∀ j, i < j → xs.getD j 0 = ys.getD j 0) : digs B xs < digs B ys := by
  have e1 : xs = xs.take i ++ xs[i] :: xs.drop (i + 1) := by rw [← List.drop_eq_getElem_cons hi, List.take_append_drop]
  have e2 : ys = ys.take i ++ ys[i]'(by omega) :: ys.drop (i + 1) := by rw [← List.drop_eq_getElem_cons (by omega), List.take_append_drop]
  have e3 : xs.drop (i + 1) = ys.drop (i + 1) := by
    apply List.ext_getElem
    · simp [hl]
    · intro j h1 h2
      simp only [List.length_drop] at h1 h2
      have := heq (i + 1 + j) (by omega)
      rw [List.getD_eq_getElem?_getD, List.getD_eq_getElem?_getD, List.getElem?_eq_getElem (by omega), List.getElem?_eq_getElem (by omega)] at this
      simpa using this
  have g1 : xs.getD i 0 = xs[i] := by simp [List.getD_eq_getElem?_getD, hi]
  have g2 : ys.getD i 0 = ys[i]'(by omega) := by simp [List.getD_eq_getElem?_getD, show i < ys.length by omega]
  rw [g1, g2] at hlt
  have h3 := digs_lt hB (hx.take i)
  rw [e1, e2, digs_append, digs_append, digs_cons, digs_cons, e3]
  have l1 : (xs.take i).length = i := by simp; omega
  have l2 : (ys.take i).length = i := by simp; omega
  rw [l1] at h3
  rw [l1, l2]
  have h4 : B ^ i * (xs[i] + 1 + B * digs B (ys.drop (i + 1))) ≤ B ^ i * (ys[i]'(by omega) + B * digs B (ys.drop (i + 1))) := Nat.mul_le_mul_left _ (by omega)
  have h5 : B ^ i * (xs[i] + 1 + B * digs B (ys.drop (i + 1))) = B ^ i * (xs[i] + B * digs B (ys.drop (i + 1))) + B ^ i := by
    rw [Nat.add_right_comm, Nat.mul_add (B ^ i) _ 1, Nat.mul_one]
  have h6 := Nat.zero_le (digs B (ys.take i))
  omega

theorem lt_of_top {a b : Nat} (hl : nl a = nl b) (i : Nat) (hi : i < nl a) (hlt : (digitsOf 256 a).getD i 0 < (digitsOf 256 b).getD i 0)
    (heq : ∀ j, i < j → (digitsOf 256 a).getD j 0 = (digitsOf 256 b).getD j 0) : a < b := by
  have := digs_lt_of_top (B := 256) (by omega) (digitsOf_lt (by omega) a) hl i hi hlt heq
  rwa [digs_digitsOf (by omega), digs_digitsOf (by omega)] at this

theorem eq_of_all {a b : Nat} (hl : nl a = nl b) (heq : ∀ j, (digitsOf 256 a).getD j 0 = (digitsOf 256 b).getD j 0) : a = b := by
  apply digitsOf_inj (B := 256) (by omega)
  apply List.ext_getElem hl
  intro i h1 h2
  have := heq i
  simpa [List.getD_eq_getElem?_getD, h1, h2] using this

theorem lt_of_nl {a b : Nat} (h : nl a < nl b) : a < b := Nat.lt_of_lt_of_le (lt_pow_nl a) (pow_le_of_nl h)

def cmpI (a b : Nat) : Int := if a < b then -1 else if a = b then 0 else 1
theorem cmpI_lt {a b : Nat} (h : a < b) : cmpI a b = -1 := by simp [cmpI, h]
theorem cmpI_eq (a : Nat) : cmpI a a = 0 := by simp [cmpI]
theorem cmpI_gt {a b : Nat} (h : b < a) : cmpI a b = 1 := by
  unfold cmpI; rw [if_neg (by omega), if_neg (by omega)]

/-! ### Bits -/
theorem bitLenAux_eq : ∀ (f x : Nat), x < 2 ^ f → Lib.bitLenAux f x = (digitsOf 2 x).length
  | 0, x, h => by obtain rfl : x = 0 := by simpa using h
                  rfl
  | f + 1, x, h => by
    unfold Lib.bitLenAux
    by_cases h0 : x = 0
    · subst h0; simp [digitsOf_zero]
    · rw [if_neg h0, digitsOf_pos (by omega) (by omega), bitLenAux_eq f (x / 2) (by rw [Nat.pow_succ] at h; omega)]
      simp; omega
theorem bitLen_eq (x : Nat) (h : x < 18446744073709551616) : Lib.bitLen x = (digitsOf 2 x).length := bitLenAux_eq 64 x h

def blen (n : Nat) : Nat := (digitsOf 2 n).length

theorem digs_take_succ {B : Nat} (l : List Nat) (k : Nat) (h : k < l.length) : digs B (l.take (k + 1)) = digs B (l.take k) + B ^ k * l.getD k 0 := by
  rw [List.take_succ_eq_append_getElem h, digs_snoc, List.length_take, Nat.min_eq_left (by omega)]
  simp [List.getD_eq_getElem?_getD, h]

end Num
end Go.Proofs.Ytbacloneddnaeaa

/- Carries and borrows along digits: plain laws. -/
namespace Go.Proofs.Ytbacloneddnaeaa
namespace Num

/-! ### Division by one word, from the highest digit down -/
def shr (B by_ : Nat) : List Nat → List Nat × Nat
  | [] => ([], 0)
  | d :: ds => let r := shr B by_ ds; ((r.2 * B + d) / by_ :: r.1, (r.2 * B + d) % by_)

theorem shr_length (B b : Nat) : ∀ l, (shr B b l).1.length = l.length
  | [] => rfl
  | d :: ds => by simp [shr, shr_length B b ds]

theorem shr_spec (B b : Nat) (hb : 0 < b) : ∀ l, digs B l = digs B (shr B b l).1 * b + (shr B b l).2 ∧ (shr B b l).2 < b
  | [] => by simp [shr, digs, hb]
  | d :: ds => by
    obtain ⟨h1, h2⟩ := shr_spec B b hb ds
    simp only [shr, digs]
    refine ⟨?_, Nat.mod_lt _ hb⟩
    have h3 := Nat.div_add_mod ((shr B b ds).2 * B + d) b
    generalize ((shr B b ds).2 * B + d) / b = q at *
    generalize ((shr B b ds).2 * B + d) % b = r at *
    rw [h1]
    grind

theorem shr_lt (B b : Nat) (hb : 0 < b) : ∀ l, AllLt B l → AllLt B (shr B b l).1
  | [], _ => AllLt.nil B
  | d :: ds, h => by
    have h2 := (shr_spec B b hb ds).2
    have hd : d < B := h d (by simp)
    refine AllLt.cons ?_ (shr_lt B b hb ds (fun x hx => h x (by simp [hx])))
    rw [Nat.div_lt_iff_lt_mul hb]
    calc (shr B b ds).2 * B + d < (shr B b ds).2 * B + B := by omega
      _ = ((shr B b ds).2 + 1) * B := by rw [Nat.add_mul, Nat.one_mul]
      _ ≤ b * B := Nat.mul_le_mul_right _ h2
      _ = B * b := Nat.mul_comm _ _

theorem shr_digs (B b : Nat) (hb : 0 < b) (l : List Nat) : digs B (shr B b l).1 = digs B l / b ∧ (shr B b l).2 = digs B l % b := by
  obtain ⟨h1, h2⟩ := shr_spec B b hb l
  rw [h1]
  constructor
  · rw [Nat.mul_comm, Nat.mul_add_div hb, Nat.div_eq_of_lt h2, Nat.add_zero]
  · rw [Nat.mul_comm, Nat.mul_add_mod, Nat.mod_eq_of_lt h2]

/-! ### A carry, from the lowest digit up -/
def cl (B : Nat) (c : Nat) : List Nat → List Nat × Nat
  | [] => ([], c)
  | t :: ts => let r := cl B ((c + t) / B) ts; ((c + t) % B :: r.1, r.2)

theorem cl_length (B : Nat) : ∀ (l : List Nat) (c : Nat), (cl B c l).1.length = l.length
  | [], _ => rfl
  | t :: ts, c => by simp [cl, cl_length B ts]

theorem cl_digs (B : Nat) : ∀ (l : List Nat) (c : Nat), digs B (cl B c l).1 + B ^ l.length * (cl B c l).2 = c + digs B l
  | [], c => by simp [cl, digs]
  | t :: ts, c => by
    have h := cl_digs B ts ((c + t) / B)
    have h3 := Nat.div_add_mod (c + t) B
    simp only [cl, digs, List.length_cons, Nat.pow_succ]
    generalize (cl B ((c + t) / B) ts).2 = z at *
    generalize digs B (cl B ((c + t) / B) ts).1 = y at *
    generalize (c + t) / B = q at *
    generalize (c + t) % B = r at *
    generalize B ^ ts.length = p at *
    grind

theorem cl_lt (B : Nat) (hB : 0 < B) : ∀ (l : List Nat) (c : Nat), AllLt B (cl B c l).1
  | [], _ => AllLt.nil B
  | _ :: ts, _c => AllLt.cons (Nat.mod_lt _ hB) (cl_lt B hB ts _)

theorem cl_snoc (B : Nat) : ∀ (l : List Nat) (c t : Nat), cl B c (l ++ [t]) = ((cl B c l).1 ++ [((cl B c l).2 + t) % B], ((cl B c l).2 + t) / B)
  | [], c, t => rfl
  | x :: xs, c, t => by simp [cl, cl_snoc B xs]

theorem cl_carry (B : Nat) (hB : 0 < B) : ∀ (l : List Nat) (c : Nat), c < B → (∀ t ∈ l, t ≤ B * (B - 1)) → (cl B c l).2 < B
  | [], c, hc, _ => hc
  | t :: ts, c, hc, h => by
    refine cl_carry B hB ts _ ?_ (fun x hx => h x (by simp [hx]))
    have ht := h t (by simp)
    rw [Nat.div_lt_iff_lt_mul hB]
    have : B * (B - 1) + B = B * B := by
      obtain ⟨b, rfl⟩ : ∃ b, B = b + 1 := ⟨B - 1, by omega⟩
      simp [Nat.mul_add]
    omega

theorem cl_take_succ (B c : Nat) (l : List Nat) (k : Nat) (h : k < l.length) :
    cl B c (l.take (k + 1)) = ((cl B c (l.take k)).1 ++ [((cl B c (l.take k)).2 + l.getD k 0) % B], ((cl B c (l.take k)).2 + l.getD k 0) / B) := by
  rw [List.take_succ_eq_append_getElem h, cl_snoc]
  simp [List.getD_eq_getElem?_getD, h]

theorem set_done {done : List Nat} {xs : List Nat} {k v : Nat} (hd : done.length = k) (hk : k < xs.length) :
    (done ++ xs.drop k).set k v = done ++ [v] ++ xs.drop (k + 1) := by
  rw [List.set_append_right _ _ (by omega), hd, Nat.sub_self, List.drop_eq_getElem_cons hk, List.set_cons_zero, List.append_assoc]
  rfl

theorem get_done {done xs : List Nat} {k i : Nat} (hd : done.length = k) (hi : k ≤ i) : (done ++ xs.drop k)[i]? = xs[i]? := by
  rw [List.getElem?_append_right (by omega), List.getElem?_drop, hd]
  congr 1; omega

theorem digs_map_mul (B f : Nat) : ∀ l, digs B (l.map (· * f)) = digs B l * f
  | [] => by simp [digs]
  | d :: l => by simp only [List.map_cons, digs, digs_map_mul B f l]; grind

def addL (xs ys : List Nat) : List Nat := List.zipWith (· + ·) xs ys
theorem digs_addL (B : Nat) : ∀ (xs ys : List Nat), xs.length = ys.length → digs B (addL xs ys) = digs B xs + digs B ys
  | [], [], _ => rfl
  | x :: xs, y :: ys, h => by
    simp only [addL, List.zipWith_cons_cons, digs]
    have := digs_addL B xs ys (by simpa using h)
    unfold addL at this
    rw [this]; grind
theorem addL_length (xs ys : List Nat) (h : xs.length = ys.length) : (addL xs ys).length = xs.length := by simp [addL, h]
theorem addL_getD (xs ys : List Nat) (h : xs.length = ys.length) (k : Nat) : (addL xs ys).getD k 0 = xs.getD k 0 + ys.getD k 0 := by
  simp only [addL, List.getD_eq_getElem?_getD, List.getElem?_zipWith]
  by_cases hk : k < xs.length
  · simp [hk, show k < ys.length by omega]
  · simp [List.getElem?_eq_none (show xs.length ≤ k by omega), List.getElem?_eq_none (show ys.length ≤ k by omega)]
theorem addL_le {B : Nat} {xs ys : List Nat} (hB : 2 ≤ B) (hx : AllLt B xs) (hy : AllLt B ys) : ∀ t ∈ addL xs ys, t ≤ B * (B - 1) := by
  intro t ht
  unfold addL at ht
  rw [List.mem_iff_getElem?] at ht
  obtain ⟨i, hi⟩ := ht
  rw [List.getElem?_zipWith] at hi
  have hb : 2 * (B - 1) ≤ B * (B - 1) := Nat.mul_le_mul_right _ hB
  split at hi
  · rename_i a b h1 h2
    have := hx.get h1
    have := hy.get h2
    simp at hi
    omega
  · cases hi

end Num
end Go.Proofs.Ytbacloneddnaeaa

/- Borrows: plain laws. -/
namespace Go.Proofs.Ytbacloneddnaeaa
namespace Num

end Num
end Go.Proofs.Ytbacloneddnaeaa

/- Products: plain laws. -/
namespace Go.Proofs.Ytbacloneddnaeaa
namespace Num

def mulT (O Y : List Nat) (i f : Nat) : List Nat := addL ((O.drop i).take Y.length) (Y.map (f * ·))
def mulO (O Y : List Nat) (i f : Nat) : List Nat :=
  O.take i ++ (cl W 0 (mulT O Y i f)).1 ++ [(cl W 0 (mulT O Y i f)).2] ++ O.drop (i + Y.length + 1)

theorem mulT_len0 (O Y : List Nat) (i : Nat) (h : i + Y.length ≤ O.length) : ((O.drop i).take Y.length).length = Y.length := by
  rw [List.length_take, List.length_drop]; omega
theorem mulT_length (O Y : List Nat) (i f : Nat) (h : i + Y.length ≤ O.length) : (mulT O Y i f).length = Y.length := by
  unfold mulT
  rw [addL_length _ _ (by rw [mulT_len0 _ _ _ h]; simp), mulT_len0 _ _ _ h]
theorem mulT_getD (O Y : List Nat) (i f k : Nat) (h : i + Y.length ≤ O.length) (hk : k < Y.length) : (mulT O Y i f).getD k 0 = O.getD (i + k) 0 + f * Y.getD k 0 := by
  unfold mulT
  rw [addL_getD _ _ (by rw [mulT_len0 _ _ _ h]; simp), getD_take, if_pos hk, getD_drop]
  congr 1
  simp [List.getD_eq_getElem?_getD, hk]

theorem digs_map_mul' (B f : Nat) (l : List Nat) : digs B (l.map (f * ·)) = f * digs B l := by
  have := digs_map_mul B f l
  rw [Nat.mul_comm f, ← this]
  congr 1
  apply List.map_congr_left
  intro x _; exact Nat.mul_comm _ _

theorem mulT_le (O Y : List Nat) (i f : Nat) (hO : AllLt W O) (hY : AllLt W Y) (hf : f < W) : ∀ t ∈ mulT O Y i f, t ≤ W * (W - 1) := by
  intro t ht
  unfold mulT addL at ht
  rw [List.mem_iff_getElem?] at ht
  obtain ⟨j, hj⟩ := ht
  rw [List.getElem?_zipWith] at hj
  split at hj
  · rename_i a b h1 h2
    have ha := ((hO.drop i).take Y.length).get h1
    rw [List.getElem?_map] at h2
    obtain ⟨y, hy, rfl⟩ := Option.map_eq_some_iff.1 h2
    have hy2 := hY.get hy
    have : f * y ≤ (W - 1) * (W - 1) := Nat.mul_le_mul (by omega) (by omega)
    simp at hj
    unfold W at *
    omega
  · cases hj

theorem mul_step (O Y : List Nat) (i f : Nat) (h : i + Y.length < O.length) (hz : digs W (O.drop (i + Y.length)) = 0) :
    digs W (mulO O Y i f) = digs W O + W ^ i * (f * digs W Y) ∧ (mulO O Y i f).length = O.length := by
  have hl := mulT_len0 O Y i (by omega)
  have hc := cl_digs W (mulT O Y i f) 0
  have hcl := cl_length W (mulT O Y i f) 0
  rw [mulT_length O Y i f (by omega)] at hcl hc
  have ht : digs W (mulT O Y i f) = digs W ((O.drop i).take Y.length) + f * digs W Y := by
    unfold mulT
    rw [digs_addL _ _ _ (by rw [hl]; simp), digs_map_mul']
  have e1 : O = O.take i ++ ((O.drop i).take Y.length ++ O.drop (i + Y.length)) := by
    rw [← List.drop_drop, List.take_append_drop, List.take_append_drop]
  have hd1 : digs W (O.drop (i + Y.length + 1)) = 0 := by
    rw [List.drop_eq_getElem_cons (by omega), digs] at hz
    have hW : (0 : Nat) < W := by decide
    have := Nat.eq_zero_of_add_eq_zero_left hz
    rcases Nat.mul_eq_zero.1 this with h1 | h1
    · omega
    · exact h1
  have hti : (O.take i).length = i := by rw [List.length_take]; omega
  have eO : digs W O = digs W (O.take i) + W ^ i * digs W ((O.drop i).take Y.length) := by
    conv => lhs; rw [e1, digs_append, digs_append, hz, hti]
    simp
  constructor
  · unfold mulO
    rw [List.append_assoc, List.append_assoc, digs_append, digs_append, digs_append, hd1, hti, hcl, eO]
    simp only [digs, Nat.mul_zero, Nat.add_zero]
    rw [ht] at hc
    generalize digs W (cl W 0 (mulT O Y i f)).1 = u at *
    generalize (cl W 0 (mulT O Y i f)).2 = v at *
    generalize digs W ((O.drop i).take Y.length) = x at *
    generalize digs W Y = y at *
    generalize W ^ Y.length = p at *
    rw [hc]
    generalize W ^ i = q
    grind
  · unfold mulO
    simp only [List.length_append, List.length_drop, List.length_cons, List.length_nil, hti, hcl]
    omega

theorem mul_zeros (O Y : List Nat) (i f : Nat) (h : i + Y.length < O.length) (hz : digs W (O.drop (i + Y.length)) = 0) :
    digs W ((mulO O Y i f).drop (i + 1 + Y.length)) = 0 := by
  have hcl := cl_length W (mulT O Y i f) 0
  rw [mulT_length O Y i f (by omega)] at hcl
  have hti : (O.take i).length = i := by rw [List.length_take]; omega
  unfold mulO
  rw [List.drop_append, List.drop_eq_nil_of_le (by simp [hti, hcl]; omega), List.nil_append]
  have : (O.take i ++ (cl W 0 (mulT O Y i f)).1 ++ [(cl W 0 (mulT O Y i f)).2]).length = i + Y.length + 1 := by simp [hti, hcl]; omega
  rw [this, show i + 1 + Y.length - (i + Y.length + 1) = 0 by omega, List.drop_zero]
  rw [List.drop_eq_getElem_cons (by omega), digs] at hz
  have hW : (0 : Nat) < W := by decide
  have := Nat.eq_zero_of_add_eq_zero_left hz
  rcases Nat.mul_eq_zero.1 this with h1 | h1
  · omega
  · exact h1

theorem mulO_lt (O Y : List Nat) (i f : Nat) (hO : AllLt W O) (hY : AllLt W Y) (hf : f < W) : AllLt W (mulO O Y i f) := by
  unfold mulO
  refine ((((hO.take i).append (cl_lt W (by decide) _ _)).append (AllLt.cons ?_ (AllLt.nil W))).append (hO.drop _))
  exact cl_carry W (by decide) _ _ (by decide) (mulT_le O Y i f hO hY hf)

def mulM (O Y : List Nat) (i f k : Nat) : List Nat := O.take i ++ (cl W 0 ((mulT O Y i f).take k)).1 ++ O.drop (i + k)

theorem mulM_zero (O Y : List Nat) (i f : Nat) : mulM O Y i f 0 = O := by simp [mulM, cl]

theorem mulM_done (O Y : List Nat) (i f k : Nat) (h : i + Y.length < O.length) (hk : k ≤ Y.length) :
    (O.take i ++ (cl W 0 ((mulT O Y i f).take k)).1).length = i + k := by
  rw [List.length_append, cl_length, List.length_take, List.length_take, mulT_length O Y i f (by omega)]; omega

theorem mulM_get (O Y : List Nat) (i f k : Nat) (h : i + Y.length < O.length) (hk : k ≤ Y.length) : (mulM O Y i f k)[i + k]? = some (O.getD (i + k) 0) := by
  unfold mulM
  rw [get_done (mulM_done O Y i f k h hk) (Nat.le_refl _), List.getD_eq_getElem?_getD, List.getElem?_eq_getElem (by omega)]; rfl

theorem mulM_set (O Y : List Nat) (i f k : Nat) (h : i + Y.length < O.length) (hk : k < Y.length) :
    (mulM O Y i f k).set (i + k) (((cl W 0 ((mulT O Y i f).take k)).2 + (O.getD (i + k) 0 + f * Y.getD k 0)) % W) = mulM O Y i f (k + 1) := by
  have h2 := cl_take_succ W 0 (mulT O Y i f) k (by rw [mulT_length O Y i f (by omega)]; exact hk)
  rw [mulT_getD O Y i f k (by omega) hk] at h2
  unfold mulM
  rw [set_done (mulM_done O Y i f k h (by omega)) (by omega), h2]
  simp [Nat.add_assoc]

theorem mulM_last (O Y : List Nat) (i f : Nat) (h : i + Y.length < O.length) :
    (mulM O Y i f Y.length).set (i + Y.length) (cl W 0 (mulT O Y i f)).2 = mulO O Y i f := by
  have ht : (mulT O Y i f).take Y.length = mulT O Y i f := List.take_of_length_le (by rw [mulT_length O Y i f (by omega)]; omega)
  unfold mulM mulO
  rw [set_done (mulM_done O Y i f Y.length h (Nat.le_refl _)) (by omega), ht]

end Num
end Go.Proofs.Ytbacloneddnaeaa

/- Long division: plain laws. -/
namespace Go.Proofs.Ytbacloneddnaeaa
namespace Num

/-! ### A multiple is taken away -/
def ta1 (x r : Nat) : Nat := if x < r then x + W - r else x - r
def ta2 (x r p : Nat) : Nat := p / W + if x < r then 1 else 0

def ta (d : Nat) : Nat → List Nat → List Nat → List Nat × Nat
  | b, x :: xs, y :: ys => let p := d * y + b; let t := ta d (ta2 x (p % W) p) xs ys; (ta1 x (p % W) :: t.1, t.2)
  | b, _, _ => ([], b)

theorem ta_length (d : Nat) : ∀ (xs ys : List Nat) (b : Nat), xs.length = ys.length → (ta d b xs ys).1.length = xs.length
  | [], _, _, _ => by simp [ta]
  | x :: xs, y :: ys, b, h => by simp [ta, ta_length d xs ys _ (by simpa using h)]

theorem ta_snoc (d : Nat) : ∀ (xs ys : List Nat) (b x y : Nat), xs.length = ys.length →
    ta d b (xs ++ [x]) (ys ++ [y]) = ((ta d b xs ys).1 ++ [ta1 x ((d * y + (ta d b xs ys).2) % W)], ta2 x ((d * y + (ta d b xs ys).2) % W) (d * y + (ta d b xs ys).2))
  | [], [], b, x, y, _ => rfl
  | u :: xs, v :: ys, b, x, y, h => by simp [ta, ta_snoc d xs ys _ x y (by simpa using h)]

theorem ta_take_succ (d b : Nat) (xs ys : List Nat) (k : Nat) (h : xs.length = ys.length) (hk : k < xs.length) :
    ta d b (xs.take (k + 1)) (ys.take (k + 1)) = ((ta d b (xs.take k) (ys.take k)).1 ++ [ta1 (xs.getD k 0) ((d * ys.getD k 0 + (ta d b (xs.take k) (ys.take k)).2) % W)],
      ta2 (xs.getD k 0) ((d * ys.getD k 0 + (ta d b (xs.take k) (ys.take k)).2) % W) (d * ys.getD k 0 + (ta d b (xs.take k) (ys.take k)).2)) := by
  rw [List.take_succ_eq_append_getElem hk, List.take_succ_eq_append_getElem (by omega), ta_snoc _ _ _ _ _ _ (by simp; omega)]
  simp [List.getD_eq_getElem?_getD, hk, show k < ys.length by omega]

theorem ta2_lt {x y b d : Nat} (hy : y < W) (hb : b < W) (hd : d < W) : ta2 x ((d * y + b) % W) (d * y + b) < W := by
  have h1 : d * y ≤ (W - 1) * (W - 1) := Nat.mul_le_mul (by omega) (by omega)
  unfold ta2 W at *
  generalize d * y = p at *
  split <;> omega

theorem ta1_lt {x r : Nat} (hx : x < W) (hr : r < W) : ta1 x r < W := by unfold ta1; split <;> omega

theorem ta_eq (x r p : Nat) (_hx : x < W) (hr : r = p % W) : x + W * ta2 x r p = p + ta1 x r := by
  subst hr
  unfold ta1 ta2
  have := Nat.div_add_mod p W
  have := Nat.mod_lt p (show 0 < W by decide)
  split
  · rw [Nat.mul_add]; omega
  · rw [Nat.mul_add]; omega

theorem ta_spec (d : Nat) (hd : d < W) : ∀ (xs ys : List Nat) (b : Nat), xs.length = ys.length → AllLt W xs → AllLt W ys → b < W →
    digs W xs + W ^ xs.length * (ta d b xs ys).2 = d * digs W ys + b + digs W (ta d b xs ys).1 ∧ AllLt W (ta d b xs ys).1 ∧ (ta d b xs ys).2 < W
  | [], [], b, _, _, _, hb => by simp [ta, digs, AllLt.nil, hb]
  | x :: xs, y :: ys, b, h, hx, hy, hb => by
    have hx0 : x < W := hx x (by simp)
    have hy0 : y < W := hy y (by simp)
    have hm := Nat.mod_lt (d * y + b) (show 0 < W by decide)
    obtain ⟨h1, h2, h3⟩ := ta_spec d hd xs ys (ta2 x ((d * y + b) % W) (d * y + b)) (by simpa using h) (fun z hz => hx z (by simp [hz])) (fun z hz => hy z (by simp [hz])) (ta2_lt hy0 hb hd)
    refine ⟨?_, AllLt.cons (ta1_lt hx0 hm) h2, h3⟩
    have h4 := ta_eq x ((d * y + b) % W) (d * y + b) hx0 rfl
    simp only [ta, digs, List.length_cons, Nat.pow_succ]
    generalize (ta d (ta2 x ((d * y + b) % W) (d * y + b)) xs ys).2 = z at *
    generalize digs W (ta d (ta2 x ((d * y + b) % W) (d * y + b)) xs ys).1 = o at *
    generalize ta1 x ((d * y + b) % W) = s at *
    generalize ta2 x ((d * y + b) % W) (d * y + b) = c at *
    generalize W ^ xs.length = p at *
    generalize digs W xs = u at *
    generalize digs W ys = v at *
    generalize W = w at *
    grind

theorem ta_top (d : Nat) (hd : d < W) (xs ys : List Nat) (t : Nat) (h : xs.length = ys.length) (hx : AllLt W xs) (hy : AllLt W ys) (_ht : t < W) :
    (t < (ta d 0 xs ys).2 ↔ digs W (xs ++ [t]) < d * digs W ys) ∧
    digs W ((ta d 0 xs ys).1 ++ [ta1 t (ta d 0 xs ys).2]) = (if digs W (xs ++ [t]) < d * digs W ys then digs W (xs ++ [t]) + W ^ (xs.length + 1) - d * digs W ys else digs W (xs ++ [t]) - d * digs W ys) := by
  obtain ⟨h1, h2, h3⟩ := ta_spec d hd xs ys 0 h hx hy (by decide)
  have hl := ta_length d xs ys 0 h
  have hlo := digs_lt (show 0 < W by decide) h2
  rw [hl] at hlo
  rw [digs_snoc, digs_snoc, hl, Nat.pow_succ]
  generalize (ta d 0 xs ys).2 = b at *
  generalize digs W (ta d 0 xs ys).1 = o at *
  generalize digs W xs = u at *
  generalize d * digs W ys = v at *
  generalize hp : W ^ xs.length = p at *
  by_cases htb : t < b
  · have e1 : p * (t + 1) ≤ p * b := Nat.mul_le_mul_left _ htb
    rw [Nat.mul_add] at e1
    have hlt : u + p * t < v := by omega
    refine ⟨⟨fun _ => hlt, fun _ => htb⟩, ?_⟩
    rw [if_pos hlt]
    unfold ta1
    rw [if_pos htb]
    have e2 : p * (t + W - b) + p * b = p * t + p * W := by rw [← Nat.mul_add, ← Nat.mul_add]; congr 1; omega
    omega
  · have e1 : p * b ≤ p * t := Nat.mul_le_mul_left _ (by omega)
    have hlt : ¬ u + p * t < v := by omega
    refine ⟨⟨fun h => absurd h htb, fun h => absurd h hlt⟩, ?_⟩
    rw [if_neg hlt]
    unfold ta1
    rw [if_neg htb]
    have e2 : p * (t - b) + p * b = p * t := by rw [← Nat.mul_add]; congr 1; omega
    omega

/-! ### Given back -/
theorem gb_top (xs ys : List Nat) (t : Nat) (h : xs.length = ys.length) :
    digs W ((cl W 0 (addL xs ys)).1 ++ [(t + (cl W 0 (addL xs ys)).2) % W]) = (digs W (xs ++ [t]) + digs W ys) % W ^ (xs.length + 1) := by
  have h1 := cl_digs W (addL xs ys) 0
  have hl := cl_length W (addL xs ys) 0
  have hlt := digs_lt (show 0 < W by decide) (cl_lt W (by decide) (addL xs ys) 0)
  rw [addL_length _ _ h] at h1 hl
  rw [hl] at hlt
  rw [digs_addL _ _ _ h] at h1
  rw [digs_snoc, digs_snoc, hl, Nat.pow_succ]
  generalize (cl W 0 (addL xs ys)).2 = b at *
  generalize digs W (cl W 0 (addL xs ys)).1 = o at *
  generalize digs W xs = u at *
  generalize digs W ys = v at *
  generalize hp : W ^ xs.length = p at *
  have e1 : u + p * t + v = o + p * (t + b) := by rw [Nat.mul_add]; omega
  have e2 := Nat.div_add_mod (t + b) W
  have e3 := Nat.mod_lt (t + b) (show 0 < W by decide)
  rw [e1]
  generalize (t + b) / W = q at *
  generalize (t + b) % W = r at *
  rw [← e2]
  have e4 : o + p * (W * q + r) = o + p * r + p * W * q := by rw [Nat.mul_add, Nat.mul_assoc]; omega
  rw [e4, Nat.add_mul_mod_self_left, Nat.mod_eq_of_lt]
  have e5 : p * (r + 1) ≤ p * W := Nat.mul_le_mul_left _ e3
  rw [Nat.mul_add] at e5
  omega

/-! ### The digit of a quotient -/

theorem guess_ge {u v yy t3 m d : Nat} (hv : yy * m ≤ v) (hu : u < (t3 + 1) * m) (hd : t3 < d * yy) : u / v < d := by
  have hv0 : 0 < v := by
    rcases Nat.eq_zero_or_pos v with h | h
    · subst h
      have : yy * m = 0 := by omega
      rcases Nat.mul_eq_zero.1 this with h1 | h1
      · subst h1; simp at hd
      · subst h1; simp at hu
    · exact h
  rw [Nat.div_lt_iff_lt_mul hv0]
  calc u < (t3 + 1) * m := hu
    _ ≤ (d * yy) * m := Nat.mul_le_mul_right _ hd
    _ = d * (yy * m) := Nat.mul_assoc _ _ _
    _ ≤ d * v := Nat.mul_le_mul_left _ hv

theorem guess_le {u v yy t3 m d : Nat} (_hm : 0 < m) (hv : v < (yy + 1) * m) (hv0 : 0 < v) (hu : t3 * m ≤ u) (hd : d * yy ≤ t3) (hyy : d ≤ yy) : d ≤ u / v + 1 := by
  rcases Nat.lt_or_ge (u / v + 1) d with h | h
  · exfalso
    have h1 : u < (u / v + 1) * v := Nat.lt_mul_of_div_lt (Nat.lt_succ_self _) hv0
    generalize u / v = q at *
    obtain ⟨e, rfl⟩ : ∃ e, d = e + 1 := ⟨d - 1, by omega⟩
    have h2 : (q + 1) * v ≤ e * v := Nat.mul_le_mul_right _ (by omega)
    have h3 : e * v ≤ e * ((yy + 1) * m) := Nat.mul_le_mul_left _ (Nat.le_of_lt hv)
    have h4 : (e + 1) * yy * m ≤ u := Nat.le_trans (Nat.mul_le_mul_right _ hd) hu
    have h5 : (e + 1) * yy * m < e * ((yy + 1) * m) := by omega
    rw [← Nat.mul_assoc] at h5
    have h6 := Nat.lt_of_mul_lt_mul_right h5
    rw [Nat.add_mul, Nat.mul_add] at h6
    omega
  · exact h

end Num
end Go.Proofs.Ytbacloneddnaeaa

/- Long division: one step, plain laws. -/
namespace Go.Proofs.Ytbacloneddnaeaa
namespace Num

theorem split2 (Y : List Nat) (n : Nat) (hn : Y.length = n) (h2 : 2 ≤ n) (hY : AllLt W Y) :
    (Y.getD (n - 1) 0 * W + Y.getD (n - 2) 0) * W ^ (n - 2) ≤ digs W Y ∧ digs W Y < (Y.getD (n - 1) 0 * W + Y.getD (n - 2) 0 + 1) * W ^ (n - 2) := by
  have e1 := digs_take_succ (B := W) Y (n - 1) (by omega)
  have e2 := digs_take_succ (B := W) Y (n - 2) (by omega)
  rw [show n - 1 + 1 = n by omega, List.take_of_length_le (by omega)] at e1
  rw [show n - 2 + 1 = n - 1 by omega] at e2
  have h3 := digs_lt (show 0 < W by decide) (hY.take (n - 2))
  rw [List.length_take, Nat.min_eq_left (by omega)] at h3
  have e4 : W ^ (n - 1) = W ^ (n - 2) * W := by rw [← Nat.pow_succ]; congr 1; omega
  rw [e1, e2, e4]
  generalize digs W (Y.take (n - 2)) = r at *
  generalize Y.getD (n - 1) 0 = a
  generalize Y.getD (n - 2) 0 = b
  generalize W ^ (n - 2) = m at *
  generalize W = w at *
  constructor <;> grind

theorem split3 (X : List Nat) (n : Nat) (hn : X.length = n + 1) (h2 : 2 ≤ n) (hX : AllLt W X) :
    ((X.getD n 0 * W + X.getD (n - 1) 0) * W + X.getD (n - 2) 0) * W ^ (n - 2) ≤ digs W X ∧ digs W X < ((X.getD n 0 * W + X.getD (n - 1) 0) * W + X.getD (n - 2) 0 + 1) * W ^ (n - 2) := by
  have e0 := digs_take_succ (B := W) X n (by omega)
  have e1 := digs_take_succ (B := W) X (n - 1) (by omega)
  have e2 := digs_take_succ (B := W) X (n - 2) (by omega)
  rw [List.take_of_length_le (by omega)] at e0
  rw [show n - 1 + 1 = n by omega] at e1
  rw [show n - 2 + 1 = n - 1 by omega] at e2
  have h3 := digs_lt (show 0 < W by decide) (hX.take (n - 2))
  rw [List.length_take, Nat.min_eq_left (by omega)] at h3
  have e4 : W ^ (n - 1) = W ^ (n - 2) * W := by rw [← Nat.pow_succ]; congr 1; omega
  have e5 : W ^ n = W ^ (n - 2) * W * W := by rw [← Nat.pow_succ, ← Nat.pow_succ]; congr 1; omega
  rw [e0, e1, e2, e4, e5]
  generalize digs W (X.take (n - 2)) = r at *
  generalize X.getD n 0 = a
  generalize X.getD (n - 1) 0 = b
  generalize X.getD (n - 2) 0 = c
  generalize W ^ (n - 2) = m at *
  generalize W = w at *
  constructor <;> grind

structure Guess (u v x0 x1 x2 y1 y2 q : Nat) : Prop where
  hx0 : x0 < W
  hx1 : x1 < W
  hx2 : x2 < W
  hy1 : y1 < W
  hy2 : y2 < W
  big : 2147483648 ≤ y1
  qW : q < W
  top : x0 * W + x1 ≤ y1 * W + y2
  ge : ∀ d, (x0 * W + x1) * W + x2 < d * (y1 * W + y2) → q < d
  le : ∀ d, d * (y1 * W + y2) ≤ (x0 * W + x1) * W + x2 → d < W → d ≤ q + 1

theorem Guess.mk' {Y S : List Nat} {n : Nat} (hn : Y.length = n) (h2 : 2 ≤ n) (hY : AllLt W Y) (hS : S.length = n + 1) (hSl : AllLt W S) (hbig : 2147483648 ≤ Y.getD (n - 1) 0) (hu : digs W S < W * digs W Y) :
    Guess (digs W S) (digs W Y) (S.getD n 0) (S.getD (n - 1) 0) (S.getD (n - 2) 0) (Y.getD (n - 1) 0) (Y.getD (n - 2) 0) (digs W S / digs W Y) := by
  have hW : (0 : Nat) < W := by decide
  obtain ⟨a1, a2⟩ := split2 Y n hn h2 hY
  obtain ⟨b1, b2⟩ := split3 S n hS h2 hSl
  have g1 := hY.getD hW (n - 1)
  have g2 := hY.getD hW (n - 2)
  have g3 := hSl.getD hW n
  have g4 := hSl.getD hW (n - 1)
  have g5 := hSl.getD hW (n - 2)
  have hm : 0 < W ^ (n - 2) := Nat.pow_pos hW
  generalize Y.getD (n - 1) 0 = y1 at *
  generalize Y.getD (n - 2) 0 = y2 at *
  generalize S.getD n 0 = x0 at *
  generalize S.getD (n - 1) 0 = x1 at *
  generalize S.getD (n - 2) 0 = x2 at *
  generalize W ^ (n - 2) = m at *
  generalize digs W S = u at *
  generalize digs W Y = v at *
  have hyW : W ≤ y1 * W := Nat.le_mul_of_pos_left _ (by omega)
  have hv0 : 0 < v := by
    have : 1 * m ≤ (y1 * W + y2) * m := Nat.mul_le_mul_right _ (Nat.le_trans (Nat.le_trans hW hyW) (Nat.le_add_right _ _))
    omega
  refine ⟨g3, g4, g5, g1, g2, hbig, ?_, ?_, fun d hd => guess_ge a1 b2 hd, fun d hd hdW => guess_le hm a2 hv0 b1 hd (Nat.le_trans (Nat.le_of_lt hdW) (Nat.le_trans hyW (Nat.le_add_right _ _)))⟩
  · rw [Nat.div_lt_iff_lt_mul hv0]; exact hu
  · have h1 : ((x0 * W + x1) * W + x2) * m < W * ((y1 * W + y2 + 1) * m) := by
      calc ((x0 * W + x1) * W + x2) * m ≤ u := b1
        _ < W * v := hu
        _ ≤ W * ((y1 * W + y2 + 1) * m) := Nat.mul_le_mul_left _ (Nat.le_of_lt a2)
    rw [← Nat.mul_assoc] at h1
    have h2 := Nat.lt_of_mul_lt_mul_right h1
    generalize W = ww at *
    have h3 : ww * (x0 * ww + x1) < ww * (y1 * ww + y2 + 1) := by rw [Nat.mul_comm ww (x0 * ww + x1)]; omega
    have := Nat.lt_of_mul_lt_mul_left h3
    omega

theorem Guess.start {u v x0 x1 x2 y1 y2 q : Nat} (G : Guess u v x0 x1 x2 y1 y2 q) :
    q ≤ (x0 * W + x1) / y1 ∧ (x0 * W + x1) / y1 ≤ W + 1 ∧ (x0 * W + x1) % y1 < y1 ∧ (x0 * W + x1) / y1 * y1 + (x0 * W + x1) % y1 = x0 * W + x1 := by
  have hy : 0 < y1 := by have := G.big; omega
  have h1 := Nat.div_add_mod (x0 * W + x1) y1
  have h2 := Nat.mod_lt (x0 * W + x1) hy
  have h3 := G.top
  have hbig := G.big
  have hy2 := G.hy2
  have hx2 := G.hx2
  have hge := G.ge q
  have hWv : W ≤ 4294967296 := Nat.le_refl _
  have hW1 : 0 < W := by decide
  refine ⟨?_, ?_, h2, by rw [Nat.mul_comm]; exact h1⟩
  · rcases Nat.lt_or_ge ((x0 * W + x1) / y1) q with h | h
    · exfalso
      clear G
      generalize W = ww at *
      have h4 := hge ?_
      · omega
      · have h5 : ((x0 * ww + x1) / y1 + 1) * y1 ≤ q * y1 := Nat.mul_le_mul_right _ h
        rw [Nat.add_mul, Nat.mul_comm _ y1] at h5
        have h6 : (x0 * ww + x1 + 1) * ww ≤ q * y1 * ww := Nat.mul_le_mul_right _ (by omega)
        rw [Nat.add_mul _ 1 ww] at h6
        rw [Nat.mul_add, ← Nat.mul_assoc]
        generalize (x0 * ww + x1) * ww = z at *
        generalize q * y1 * ww = z2 at *
        omega
    · exact h
  · rw [Nat.div_le_iff_le_mul_add_pred hy]
    clear G hge
    generalize W = ww at *
    have : y1 * (ww + 1) = y1 * ww + y1 := by rw [Nat.mul_add, Nat.mul_one]
    omega

theorem Guess.down {u v x0 x1 x2 y1 y2 q : Nat} (G : Guess u v x0 x1 x2 y1 y2 q) {d r : Nat} (he : d * y1 + r = x0 * W + x1) (ht : W ≤ d ∨ r * W + x2 < d * y2) : q < d := by
  rcases ht with h | h
  · have := G.qW; omega
  · apply G.ge
    rw [Nat.mul_add, ← Nat.mul_assoc, ← he, Nat.add_mul]
    clear G he
    generalize W = ww at *
    omega

theorem Guess.done {u v x0 x1 x2 y1 y2 q : Nat} (G : Guess u v x0 x1 x2 y1 y2 q) {d r : Nat} (he : d * y1 + r = x0 * W + x1) (h1 : d < W) (ht : d * y2 ≤ r * W + x2) : d ≤ q + 1 := by
  refine G.le d ?_ h1
  rw [Nat.mul_add, ← Nat.mul_assoc, ← he, Nat.add_mul]
  clear G he h1
  generalize W = ww at *
  omega

theorem Guess.done2 {u v x0 x1 x2 y1 y2 q : Nat} (G : Guess u v x0 x1 x2 y1 y2 q) {d r : Nat} (he : d * y1 + r = x0 * W + x1) (h1 : d ≤ W) (hr : W ≤ r) : d < W ∧ d ≤ q + 1 := by
  have hlt : d < W := by
    rcases Nat.lt_or_ge d W with h | h
    · exact h
    · exfalso
      have hd : d = W := Nat.le_antisymm h1 h
      have h3 := G.top
      have h4 := G.hy2
      rw [hd, Nat.mul_comm W y1] at he
      clear G hd h h1
      generalize W = ww at *
      omega
  refine ⟨hlt, G.le d ?_ hlt⟩
  have h5 : d * y2 ≤ W * W := Nat.mul_le_mul h1 (Nat.le_of_lt G.hy2)
  have h6 : W * W ≤ r * W := Nat.mul_le_mul_right _ hr
  rw [Nat.mul_add, ← Nat.mul_assoc, ← he, Nat.add_mul]
  clear G he h1 hr hlt
  generalize W = ww at *
  omega

theorem Guess.next {u v x0 x1 x2 y1 y2 q : Nat} (_ : Guess u v x0 x1 x2 y1 y2 q) {d r : Nat} (he : d * y1 + r = x0 * W + x1) (hd : 0 < d) : (d - 1) * y1 + (r + y1) = x0 * W + x1 := by
  obtain ⟨e, rfl⟩ : ∃ e, d = e + 1 := ⟨d - 1, by omega⟩
  rw [Nat.add_mul] at he
  simp only [Nat.add_sub_cancel]
  omega

theorem take_digit {u v q d : Nat} (hv : 0 < v) (hq : q = u / v) (h1 : q ≤ d) (h2 : d ≤ q + 1) :
    (u < d * v ↔ d = q + 1) ∧ (d = q → u - d * v = u % v) ∧ (d = q + 1 → ∀ M, v ≤ M → (u + M - d * v + v) % M = u % v) := by
  subst hq
  have e := Nat.div_add_mod u v
  have hm := Nat.mod_lt u hv
  generalize u / v = q at *
  generalize u % v = r at *
  have e2 : q * v = v * q := Nat.mul_comm _ _
  refine ⟨⟨fun h => ?_, fun h => ?_⟩, fun h => ?_, fun h M hM => ?_⟩
  · rcases Nat.lt_or_ge q d with h3 | h3
    · omega
    · obtain rfl : d = q := by omega
      omega
  · subst h; rw [Nat.add_mul]; omega
  · subst h; omega
  · subst h
    rw [Nat.add_mul]
    have : u + M - (q * v + 1 * v) + v = M + r := by omega
    rw [this, Nat.add_mod_left, Nat.mod_eq_of_lt (by omega)]

end Num
end Go.Proofs.Ytbacloneddnaeaa

/- Long division: the loop, plain laws. -/
namespace Go.Proofs.Ytbacloneddnaeaa
namespace Num

structure LongInv (A : Nat) (Y : List Nat) (L k : Nat) (X Q : List Nat) : Prop where
  xl : X.length = L
  ql : Q.length = L - Y.length
  xlt : AllLt W X
  qlt : AllLt W Q
  sum : A = digs W Y * digs W Q + digs W X
  less : digs W (X.drop k) < digs W Y
  zero : ∀ j, j < k → Q.getD j 0 = 0

def seg (X : List Nat) (i n : Nat) : List Nat := (X.drop i).take n

theorem digs_set (B : Nat) : ∀ (l : List Nat) (i d : Nat), i < l.length → l.getD i 0 = 0 → digs B (l.set i d) = digs B l + B ^ i * d
  | x :: l, 0, d, _, h => by simp at h; subst h; simp [digs]; omega
  | x :: l, i + 1, d, hi, h => by
    have := digs_set B l i d (by simpa using hi) (by simpa using h)
    simp only [List.set_cons_succ, digs, this, Nat.pow_succ]
    rw [Nat.mul_add, Nat.mul_comm (B ^ i) B, Nat.mul_assoc]
    omega

theorem X_split (X : List Nat) (i n : Nat) (h : i + n < X.length) :
    X = X.take i ++ seg X i n ++ X.getD (i + n) 0 :: X.drop (i + n + 1) ∧ (X.take i).length = i ∧ (seg X i n).length = n := by
  refine ⟨?_, by simp; omega, by simp [seg]; omega⟩
  conv => lhs; rw [← List.take_append_drop i X]
  rw [List.append_assoc]
  congr 1
  conv => lhs; rw [← List.take_append_drop n (X.drop i)]
  unfold seg
  congr 1
  rw [List.drop_drop, List.drop_eq_getElem_cons h, List.getD_eq_getElem?_getD, List.getElem?_eq_getElem h]
  rfl

theorem long_seg {A : Nat} {Y : List Nat} {L i : Nat} {X Q : List Nat} (H : LongInv A Y L (i + 1) X Q) (_hy : 0 < Y.length) (hY : AllLt W Y) (h : i + Y.length < L) :
    digs W (X.drop (i + Y.length + 1)) = 0 ∧ digs W (seg X i Y.length ++ [X.getD (i + Y.length) 0]) < W * digs W Y ∧
    digs W X = digs W (X.take i) + W ^ i * digs W (seg X i Y.length ++ [X.getD (i + Y.length) 0]) := by
  have hW : (0 : Nat) < W := by decide
  obtain ⟨e1, e2, e3⟩ := X_split X i Y.length (by rw [H.xl]; exact h)
  have hv := digs_lt hW hY
  have hless := H.less
  have hd : X.drop (i + 1) = (seg X i Y.length ++ [X.getD (i + Y.length) 0]).drop 1 ++ X.drop (i + Y.length + 1) := by
    conv => lhs; rw [e1]
    rw [show X.take i ++ seg X i Y.length ++ X.getD (i + Y.length) 0 :: X.drop (i + Y.length + 1) = X.take i ++ ((seg X i Y.length ++ [X.getD (i + Y.length) 0]) ++ X.drop (i + Y.length + 1)) by simp]
    rw [List.drop_append, List.drop_eq_nil_of_le (by omega), List.nil_append, e2, show i + 1 - i = 1 by omega, List.drop_append_of_le_length (by simp)]
  have hl1 : ((seg X i Y.length ++ [X.getD (i + Y.length) 0]).drop 1).length = Y.length := by simp [e3]
  rw [hd, digs_append, hl1] at hless
  have hz : digs W (X.drop (i + Y.length + 1)) = 0 := by
    rcases Nat.eq_zero_or_pos (digs W (X.drop (i + Y.length + 1))) with h0 | h0
    · exact h0
    · have : W ^ Y.length * 1 ≤ W ^ Y.length * digs W (X.drop (i + Y.length + 1)) := Nat.mul_le_mul_left _ h0
      omega
  rw [hz, Nat.mul_zero, Nat.add_zero] at hless
  refine ⟨hz, ?_, ?_⟩
  · have hne : seg X i Y.length ++ [X.getD (i + Y.length) 0] ≠ [] := by simp
    obtain ⟨a, t, hat⟩ := List.exists_cons_of_ne_nil hne
    rw [hat] at hless ⊢
    simp only [List.drop_succ_cons, List.drop_zero] at hless
    have ha : a < W := by
      have : a ∈ X := by
        rw [e1]
        have : a ∈ seg X i Y.length ++ [X.getD (i + Y.length) 0] := by rw [hat]; simp
        rcases List.mem_append.1 this with h1 | h1
        · simp [h1]
        · simp at h1; simp [h1]
      exact H.xlt a this
    rw [digs]
    have : W * (digs W t + 1) ≤ W * digs W Y := Nat.mul_le_mul_left _ hless
    rw [Nat.mul_add] at this
    omega
  · conv => lhs; rw [e1]
    rw [show X.take i ++ seg X i Y.length ++ X.getD (i + Y.length) 0 :: X.drop (i + Y.length + 1) = X.take i ++ ((seg X i Y.length ++ [X.getD (i + Y.length) 0]) ++ X.drop (i + Y.length + 1)) by simp]
    rw [digs_append, digs_append, hz, e2]
    simp

theorem long_step {A : Nat} {Y : List Nat} {L i : Nat} {X Q : List Nat} (H : LongInv A Y L (i + 1) X Q) (hy : 0 < Y.length) (hY : AllLt W Y) (h : i + Y.length < L)
    {u : Nat} (hu : u = digs W (seg X i Y.length ++ [X.getD (i + Y.length) 0])) (hv : 0 < digs W Y) (hq : u / digs W Y < W)
    (xs' : List Nat) (t' : Nat) (hl : xs'.length = Y.length) (hlt : AllLt W (xs' ++ [t'])) (hd : digs W (xs' ++ [t']) = u % digs W Y) :
    LongInv A Y L i (X.take i ++ xs' ++ t' :: X.drop (i + Y.length + 1)) (Q.set i (u / digs W Y)) := by
  obtain ⟨h1, h2, h3⟩ := long_seg H hy hY h
  obtain ⟨e1, e2, e3⟩ := X_split X i Y.length (by rw [H.xl]; exact h)
  rw [← hu] at h3
  have ee : X.take i ++ xs' ++ t' :: X.drop (i + Y.length + 1) = X.take i ++ ((xs' ++ [t']) ++ X.drop (i + Y.length + 1)) := by simp
  rw [ee]
  refine ⟨?_, by rw [List.length_set]; exact H.ql, ?_, H.qlt.set _ _ hq, ?_, ?_, ?_⟩
  · simp [e2, hl, H.xl]; have := H.xl; omega
  · exact (H.xlt.take i).append (hlt.append (H.xlt.drop _))
  · rw [digs_set W Q i _ (by rw [H.ql]; omega) (H.zero i (by omega)), digs_append, digs_append, h1, e2, hd]
    have hs := H.sum
    rw [h3] at hs
    have hdm := Nat.div_add_mod u (digs W Y)
    generalize u / digs W Y = q at *
    generalize u % digs W Y = r at *
    generalize digs W Y = v at *
    generalize digs W Q = z at *
    generalize digs W (X.take i) = a at *
    generalize W ^ i = p at *
    rw [hs, ← hdm]
    grind
  · rw [List.drop_append, List.drop_eq_nil_of_le (by omega), List.nil_append, e2, Nat.sub_self, List.drop_zero, digs_append, h1, hd]
    have := Nat.mod_lt u hv
    simpa using this
  · intro j hj
    have := H.zero j (by omega)
    rw [List.getD_eq_getElem?_getD, List.getElem?_set_ne (by omega), ← List.getD_eq_getElem?_getD]
    exact this

theorem long_end {A : Nat} {Y : List Nat} {L : Nat} {X Q : List Nat} (H : LongInv A Y L 0 X Q) : digs W Q = A / digs W Y ∧ digs W X = A % digs W Y := by
  have h1 := H.less
  rw [List.drop_zero] at h1
  rw [H.sum]
  constructor
  · rw [Nat.mul_add_div (by omega), Nat.div_eq_of_lt h1, Nat.add_zero]
  · rw [Nat.mul_add_mod, Nat.mod_eq_of_lt h1]

end Num
end Go.Proofs.Ytbacloneddnaeaa
