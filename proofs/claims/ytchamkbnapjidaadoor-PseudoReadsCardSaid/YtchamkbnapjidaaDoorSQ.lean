/- Sums: what is written is read as it was, and what is read was written so. Plain. -/
import Derived.Test.YtchamkbnapjidaaDoorSP
namespace Go.Proofs.YtchamkbnapjidaaDoor
open Go

/-! ### Numerals -/
theorem dd_ne (u : Nat) : Lib.decDigits u ≠ [] := by
  intro h
  have h1 := Lib.decDigits_length u
  have h2 := Lib.nDigits_pos u
  rw [h] at h1; simp at h1; omega
theorem ofNat_toNat (d : Nat) (h : d < 10) : (UInt8.ofNat (48 + d)).toNat = 48 + d := by
  rw [UInt8.toNat_ofNat']; omega
theorem dd_dig (u : Nat) : ∀ c ∈ Lib.decDigits u, isDig c = true := by
  induction u using Nat.strongRecOn with
  | _ u ih =>
    by_cases h : u < 10
    · rw [Lib.decDigits_one h]
      intro c hc
      rw [List.mem_singleton] at hc; subst hc
      unfold isDig; rw [ofNat_toNat u h]; simp; omega
    · rw [Lib.decDigits, dif_neg h]
      intro c hc
      rcases List.mem_append.1 hc with hc | hc
      · exact ih (u / 10) (by omega) c hc
      · rw [List.mem_singleton] at hc; subst hc
        unfold isDig; rw [ofNat_toNat (u % 10) (by omega)]; simp; omega
theorem dd_val (u : Nat) : decV (Lib.decDigits u) = u := by
  induction u using Nat.strongRecOn with
  | _ u ih =>
    by_cases h : u < 10
    · rw [Lib.decDigits_one h]
      show 0 * 10 + ((UInt8.ofNat (48 + u)).toNat - 48) = u
      rw [ofNat_toNat u h]; omega
    · rw [Lib.decDigits, dif_neg h, decV_snoc, ih (u / 10) (by omega), ofNat_toNat (u % 10) (by omega)]; omega
theorem dd_head (u : Nat) (h : 1 ≤ u) : (Lib.decDigits u).head? ≠ some 48 := by
  induction u using Nat.strongRecOn with
  | _ u ih =>
    by_cases h10 : u < 10
    · rw [Lib.decDigits_one h10]
      intro e
      have e1 : UInt8.ofNat (48 + u) = 48 := by simpa using e
      have e2 := congrArg UInt8.toNat e1
      rw [ofNat_toNat u h10] at e2
      have e3 : (48 : UInt8).toNat = 48 := rfl
      omega
    · rw [Lib.decDigits, dif_neg h10, List.head?_append]
      have h1 := ih (u / 10) (by omega) (by omega)
      cases hd : (Lib.decDigits (u / 10)).head? with
      | none => exact absurd (List.head?_eq_none_iff.1 hd) (dd_ne _)
      | some c => rw [hd] at h1; simpa using h1
theorem nDigits_le : ∀ (k u : Nat), u < 10 ^ (k + 1) → Lib.nDigits u ≤ k + 1
  | 0, u, h => by rw [Lib.nDigits_small (by simpa using h)]; omega
  | k + 1, u, h => by
    by_cases h10 : u < 10
    · rw [Lib.nDigits_small h10]; omega
    · rw [Lib.nDigits_big h10]
      have := nDigits_le k (u / 10) (by rw [Nat.pow_succ] at h; omega)
      omega
theorem dd_len10 {u : Nat} (h : u < 10000000000) : (Lib.decDigits u).length ≤ 10 := by
  rw [Lib.decDigits_length]
  exact nDigits_le 9 u (by have : (10 : Nat) ^ (9 + 1) = 10000000000 := by decide
                           omega)
theorem fold_ge (l : List UInt8) : ∀ a : Nat, a ≤ l.foldl (fun a c => a * 10 + (c.toNat - 48)) a := by
  induction l with
  | nil => intro a; exact Nat.le_refl _
  | cons c l ih =>
    intro a
    rw [List.foldl_cons]
    have := ih (a * 10 + (c.toNat - 48))
    omega
theorem decV_pos {l : List UInt8} (h0 : l ≠ []) (hd : ∀ c ∈ l, isDig c = true) (hh : l.head? ≠ some 48) : 1 ≤ decV l := by
  cases l with
  | nil => exact absurd rfl h0
  | cons c l =>
    have h1 := hd c (List.mem_cons_self ..)
    simp only [isDig, Bool.and_eq_true, decide_eq_true_eq] at h1
    have h2 : c.toNat ≠ 48 := fun e => hh (by rw [List.head?_cons]; congr 1; exact UInt8.toNat_inj.1 e)
    have h3 := fold_ge l (0 * 10 + (c.toNat - 48))
    show 1 ≤ l.foldl _ (0 * 10 + (c.toNat - 48))
    omega
theorem dd_of : ∀ (n : Nat) (l : List UInt8), l.length = n → l ≠ [] → (∀ c ∈ l, isDig c = true) → (l.head? = some 48 → l.length = 1) → Lib.decDigits (decV l) = l
  | 0, l, h, h0, _, _ => absurd (List.length_eq_zero_iff.1 h) h0
  | n + 1, l, h, h0, hd, hh => by
    obtain ⟨l', c, rfl⟩ : ∃ l' c, l = l' ++ [c] := ⟨l.dropLast, l.getLast h0, (List.dropLast_concat_getLast h0).symm⟩
    have hc := hd c (by simp)
    simp only [isDig, Bool.and_eq_true, decide_eq_true_eq] at hc
    have ec : UInt8.ofNat (48 + (c.toNat - 48)) = c := by
      rw [show 48 + (c.toNat - 48) = c.toNat by omega]; exact UInt8.ofNat_toNat
    by_cases h1 : l' = []
    · subst h1
      have e : decV ([] ++ [c]) = c.toNat - 48 := by rw [decV_snoc]; simp [decV]
      rw [e, Lib.decDigits_one (by omega), ec]; rfl
    · have hl' : (l' ++ [c]).head? = l'.head? := by
        cases l' with
        | nil => exact absurd rfl h1
        | cons a b => rfl
      have hlen : 1 ≤ l'.length := List.length_pos_iff.2 h1
      have h2 : l'.head? ≠ some 48 := fun e => by
        have := hh (by rw [hl']; exact e)
        simp at this; exact h1 this
      have h3 := decV_pos h1 (fun d hd' => hd d (by simp [hd'])) h2
      rw [decV_snoc, Lib.decDigits, dif_neg (by omega), show (decV l' * 10 + (c.toNat - 48)) / 10 = decV l' by omega, show (decV l' * 10 + (c.toNat - 48)) % 10 = c.toNat - 48 by omega, ec, dd_of n l' (by simpa using h) h1 (fun d hd' => hd d (by simp [hd'])) (fun e => absurd e h2)]
theorem digN_app : ∀ (a r : List UInt8), (∀ c ∈ a, isDig c = true) → (∀ c, r.head? = some c → isDig c = false) → digN (a ++ r) = a.length
  | [], [], _, _ => rfl
  | [], c :: r, _, h => by
    unfold digN
    rw [List.nil_append, List.takeWhile_cons, h c rfl]; rfl
  | c :: a, r, ha, h => by
    have ih := digN_app a r (fun d hd => ha d (List.mem_cons_of_mem _ hd)) h
    unfold digN at ih ⊢
    rw [List.cons_append, List.takeWhile_cons, if_pos (ha c (List.mem_cons_self ..)), List.length_cons, ih, List.length_cons]

/-- Nothing digit-like ahead. -/
def noDig (r : List UInt8) : Prop := ∀ c, r.head? = some c → isDig c = false
theorem noDig_nil : noDig [] := fun c h => by cases h
theorem noDig_blank (r : List UInt8) : noDig (32 :: r) := fun c h => by
  rw [List.head?_cons] at h; cases h; rfl

theorem numBad_dd {u : Nat} {r : List UInt8} {neg : Bool} (hu : u < 10000000000) (hr : noDig r) (hn : neg = true → 1 ≤ u) : numBad neg (Lib.decDigits u ++ r) = false := by
  have e := digN_app _ r (dd_dig u) hr
  have h1 := dd_len10 hu
  have h2 : 1 ≤ (Lib.decDigits u).length := by rw [Lib.decDigits_length]; exact Lib.nDigits_pos u
  have e2 : (Lib.decDigits u ++ r).head? = (Lib.decDigits u).head? := by
    cases hd : Lib.decDigits u with
    | nil => exact absurd hd (dd_ne u)
    | cons a b => rfl
  unfold numBad
  rw [e, e2]
  by_cases h0 : 1 ≤ u
  · have h3 := dd_head u h0
    rw [decide_eq_false (show ¬ (Lib.decDigits u).length = 0 by omega), decide_eq_false (show ¬ 10 < (Lib.decDigits u).length by omega), decide_eq_false h3]; rfl
  · have hu0 : u = 0 := by omega
    subst hu0
    have hneg : neg = false := by
      cases neg with
      | false => rfl
      | true => have := hn rfl; omega
    subst hneg
    rw [Lib.decDigits_one (by omega)]
    decide
theorem numP_itoa {signed : Bool} {n : Int} {r : List UInt8} (h : 0 ≤ n ∨ signed = true) (h1 : -10000000000 < n) (h2 : n < 10000000000) (hr : noDig r) : numP signed (Lib.itoa n ++ r) = some (n, r) := by
  by_cases hn : n < 0
  · have hs : signed = true := by rcases h with h | h; omega; exact h
    subst hs
    have e : Lib.itoa n = 45 :: Lib.decDigits n.natAbs := by unfold Lib.itoa; rw [if_pos hn]
    have e1 : numNeg true (Lib.itoa n ++ r) = true := by rw [e]; rfl
    have e2 : numRest true (Lib.itoa n ++ r) = Lib.decDigits n.natAbs ++ r := by
      unfold numRest; rw [if_pos e1, e]; rfl
    unfold numP
    rw [e1, e2, numBad_dd (by omega) hr (fun _ => by omega), digN_app _ r (dd_dig _) hr]
    simp only [Bool.false_eq_true, if_false, if_true, List.take_left', List.drop_left', dd_val]
    congr 2; omega
  · have e : Lib.itoa n = Lib.decDigits n.toNat := by unfold Lib.itoa; rw [if_neg hn]
    have e1 : numNeg signed (Lib.itoa n ++ r) = false := by
      rw [e]
      have hd := dd_dig n.toNat
      cases hdd : Lib.decDigits n.toNat with
      | nil => exact absurd hdd (dd_ne _)
      | cons a b =>
        have ha := hd a (by rw [hdd]; exact List.mem_cons_self ..)
        have h45 : (45 == a) = false := by
          rw [beq_eq_false_iff_ne]; rintro rfl; revert ha; decide
        simp [numNeg, Lib.hasPrefix, List.isPrefixOf, h45]
    have e2 : numRest signed (Lib.itoa n ++ r) = Lib.decDigits n.toNat ++ r := by
      unfold numRest; rw [e1, e]; rfl
    unfold numP
    rw [e1, e2, numBad_dd (by omega) hr (fun h => by cases h), digN_app _ r (dd_dig _) hr]
    simp only [Bool.false_eq_true, if_false, List.take_left', List.drop_left', dd_val]
    congr 2; omega
theorem prefix_split {l p : List UInt8} (h : Lib.hasPrefix l p = true) : l = p ++ l.drop p.length := by
  unfold Lib.hasPrefix at h
  obtain ⟨t, ht⟩ := List.isPrefixOf_iff_prefix.1 h
  subst ht; simp
/-- A number that was read was written so. -/
theorem itoa_of_num {signed : Bool} {l r : List UInt8} {n : Int} (h : numP signed l = some (n, r)) : l = Lib.itoa n ++ r ∧ (signed = false → 0 ≤ n) := by
  unfold numP at h
  split at h
  · cases h
  · rename_i hb
    simp only [Option.some.injEq, Prod.mk.injEq] at h
    obtain ⟨rfl, rfl⟩ := h
    simp only [numBad, Bool.or_eq_true, Bool.and_eq_true, decide_eq_true_eq, not_or, not_and] at hb
    generalize hx : numRest signed l = x at *
    have hd := dig_all x
    have hne : x.take (digN x) ≠ [] := by
      intro e
      have h3 := congrArg List.length e
      rw [List.length_take, List.length_nil] at h3
      have h4 := digN_le x
      omega
    have hhd : (x.take (digN x)).head? = x.head? := by
      cases x with
      | nil => simp
      | cons a b =>
        cases hk : digN (a :: b) with
        | zero => rw [hk] at hb; exact absurd rfl hb.1
        | succ k => rfl
    have hlen : (x.take (digN x)).length = digN x := by
      rw [List.length_take]; have := digN_le x; omega
    have hdd : Lib.decDigits (decV (x.take (digN x))) = x.take (digN x) := dd_of _ _ rfl hne hd (fun e => by
      rw [hhd] at e
      have := hb.2.2 e
      omega)
    cases hneg : numNeg signed l with
    | true =>
      have h48 : x.head? ≠ some 48 := fun e => absurd hneg (by have := (hb.2.2 e).2; simpa using this)
      have hpos := decV_pos hne hd (by rw [hhd]; exact h48)
      unfold numNeg at hneg
      rw [Bool.and_eq_true] at hneg
      have hl := prefix_split hneg.2
      have hx' : x = l.drop 1 := by rw [← hx]; unfold numRest numNeg; rw [if_pos (by simp [hneg.1, hneg.2])]
      refine ⟨?_, fun e => by rw [e] at hneg; exact absurd hneg.1 (by simp)⟩
      show l = Lib.itoa (-1 * (decV (x.take (digN x)) : Nat)) ++ x.drop (digN x)
      have e1 : Lib.itoa (-1 * (decV (x.take (digN x)) : Nat)) = 45 :: Lib.decDigits (decV (x.take (digN x))) := by
        rw [show (-1 : Int) * (decV (x.take (digN x)) : Nat) = -((decV (x.take (digN x)) : Nat) : Int) by omega]
        unfold Lib.itoa; rw [if_pos (by omega)]; simp
      rw [e1, hdd, List.cons_append, List.take_append_drop, hl, hx']; rfl
    | false =>
      have hx' : x = l := by rw [← hx]; unfold numRest; rw [hneg]; rfl
      refine ⟨?_, fun _ => by simp⟩
      have e1 : Lib.itoa ((if false = true then (-1 : Int) else 1) * (decV (x.take (digN x)) : Nat)) = Lib.decDigits (decV (x.take (digN x))) := by
        simp [Lib.itoa]
      rw [e1, hdd, List.take_append_drop, hx']

/-! ### Terms -/
theorem way_lit {v : Int} {r : List UInt8} : wayP (tLit v ++ r) = if v < 0 then some (-1, Lib.itoa (-v) ++ r) else some (1, Lib.itoa v ++ r) := by
  unfold tLit
  split <;> rfl
theorem term_lit {first : Bool} {c v : Int} {r : List UInt8} (hc : 0 ≤ c ∨ first = true) (hc1 : -10000000000 < c) (hc2 : c < 10000000000) (hv1 : -10000000000 < v) (hv2 : v < 10000000000) (hr : noDig r) :
    termP first (Lib.itoa c ++ (tLit v ++ r)) = some (c, v, r) := by
  unfold termP
  have hb : noDig (tLit v ++ r) := by unfold tLit; split <;> exact noDig_blank _
  rw [numP_itoa hc hc1 hc2 hb]
  simp only []
  rw [way_lit]
  by_cases hv : v < 0
  · rw [if_pos hv]
    simp only []
    rw [numP_itoa (Or.inl (by omega)) (by omega) (by omega) hr]
    simp only []
    congr 3; omega
  · rw [if_neg hv]
    simp only []
    rw [numP_itoa (Or.inl (by omega)) (by omega) (by omega) hr]
    simp only []
    congr 3; omega
theorem lit_of_term {first : Bool} {l r : List UInt8} {c v : Int} (h : termP first l = some (c, v, r)) (hv : v ≠ 0) : l = Lib.itoa c ++ (tLit v ++ r) ∧ (first = false → 0 ≤ c) := by
  unfold termP at h
  split at h
  · cases h
  rename_i c' l1 h1
  split at h
  · cases h
  rename_i w l2 h2
  split at h
  · cases h
  rename_i v' l3 h3
  simp only [Option.some.injEq, Prod.mk.injEq] at h
  obtain ⟨rfl, rfl, rfl⟩ := h
  obtain ⟨e1, p1⟩ := itoa_of_num h1
  obtain ⟨e3, p3⟩ := itoa_of_num h3
  have p3 := p3 rfl
  refine ⟨?_, p1⟩
  rw [e1]
  congr 1
  unfold wayP at h2
  split at h2
  · rename_i hp
    simp only [Option.some.injEq, Prod.mk.injEq] at h2
    obtain ⟨rfl, rfl⟩ := h2
    have := prefix_split hp
    have hlt : -1 * v' < 0 := by omega
    unfold tLit
    rw [if_pos hlt, show -(-1 * v') = v' by omega, List.append_assoc, ← e3]
    exact this
  · split at h2
    · rename_i hp
      simp only [Option.some.injEq, Prod.mk.injEq] at h2
      obtain ⟨rfl, rfl⟩ := h2
      have := prefix_split hp
      unfold tLit
      rw [if_neg (by omega), show 1 * v' = v' by omega, List.append_assoc, ← e3]
      exact this
    · cases h2

/-- Terms behind the first one. -/
def tTs : List (Int × Int) → List UInt8
  | [] => []
  | (c, v) :: ts => (if c < 0 then [32, 45, 32] ++ Lib.itoa (-c) else [32, 43, 32] ++ Lib.itoa c) ++ (tLit v ++ tTs ts)
theorem noDig_tTs (ts : List (Int × Int)) {r : List UInt8} (hr : noDig r) : noDig (tTs ts ++ r) := by
  cases ts with
  | nil => exact hr
  | cons x ts =>
    obtain ⟨c, v⟩ := x
    unfold tTs
    split <;> exact noDig_blank _
/-- No sign ahead. -/
def noSign (r : List UInt8) : Prop := Lib.hasPrefix r [32, 43, 32] = false ∧ Lib.hasPrefix r [32, 45, 32] = false
def inTen (x : Int) : Prop := -10000000000 < x ∧ x < 10000000000
theorem itoa_head_zero {n : Int} {r : List UInt8} (h : 1 ≤ n) : Lib.hasPrefix (Lib.itoa n ++ r) [48] = false := by
  have e : Lib.itoa n = Lib.decDigits n.toNat := by unfold Lib.itoa; rw [if_neg (by omega)]
  rw [e]
  have h1 := dd_head n.toNat (by omega)
  cases hd : Lib.decDigits n.toNat with
  | nil => exact absurd hd (dd_ne _)
  | cons a b =>
    rw [hd] at h1
    have : (48 == a) = false := by
      rw [beq_eq_false_iff_ne]; rintro rfl; exact h1 rfl
    simp [Lib.hasPrefix, List.isPrefixOf, this]
theorem terms_text {r : List UInt8} (hr : noDig r) (hs : noSign r) : ∀ (ts : List (Int × Int)) (k : Nat) (first : Bool) (sign c v : Int), ts.length + 2 ≤ k → sign = 1 ∨ sign = -1 → (0 ≤ sign * c ∨ first = true) → inTen c → inTen v → (∀ x ∈ ts, inTen x.1 ∧ inTen x.2) →
    termsP k first sign (Lib.itoa (sign * c) ++ (tLit v ++ (tTs ts ++ r))) = some ((c, v) :: ts, r)
  | ts, 0, _, _, _, _, hk, _, _, _, _, _ => by omega
  | ts, k + 1, first, sign, c, v, hk, hsg, hc, hc1, hv1, hts => by
    have hsc : inTen (sign * c) := by
      unfold inTen at *
      rcases hsg with rfl | rfl <;> omega
    have hcc : sign * (sign * c) = c := by rcases hsg with rfl | rfl <;> omega
    unfold termsP
    rw [term_lit hc hsc.1 hsc.2 hv1.1 hv1.2 (noDig_tTs ts hr)]
    simp only [hcc]
    rw [if_neg (by omega)]
    cases ts with
    | nil =>
      unfold tTs
      rw [List.nil_append, hs.1, hs.2]; rfl
    | cons x ts =>
      obtain ⟨c2, v2⟩ := x
      have hx := hts (c2, v2) (List.mem_cons_self ..)
      have hts' : ∀ x ∈ ts, inTen x.1 ∧ inTen x.2 := fun x hx => hts x (List.mem_cons_of_mem _ hx)
      simp only [List.length_cons] at hk
      unfold tTs
      by_cases h2 : c2 < 0
      · have ih := terms_text hr hs ts k false (-1) c2 v2 (by omega) (Or.inr rfl) (Or.inl (by omega)) hx.1 hx.2 hts'
        rw [if_pos h2]
        rw [show -1 * c2 = -c2 by omega] at ih
        have e : ([32, 45, 32] ++ Lib.itoa (-c2) ++ (tLit v2 ++ tTs ts) ++ r) = [32, 45, 32] ++ (Lib.itoa (-c2) ++ (tLit v2 ++ (tTs ts ++ r))) := by simp only [List.append_assoc]
        rw [e]
        generalize hY : Lib.itoa (-c2) ++ (tLit v2 ++ (tTs ts ++ r)) = Y at *
        have h48 : Lib.hasPrefix Y [48] = false := by rw [← hY]; exact itoa_head_zero (by omega)
        have g1 : Lib.hasPrefix ([32, 45, 32] ++ Y) [32, 43, 32] = false := by simp [Lib.hasPrefix, List.isPrefixOf]
        have g2 : Lib.hasPrefix ([32, 45, 32] ++ Y) [32, 45, 32] = true := by simp [Lib.hasPrefix, List.isPrefixOf]
        have g3 : ([32, 45, 32] ++ Y).drop 3 = Y := rfl
        rw [g1, g2, g3, h48, ih]; rfl
      · have ih := terms_text hr hs ts k false 1 c2 v2 (by omega) (Or.inl rfl) (Or.inl (by omega)) hx.1 hx.2 hts'
        rw [if_neg h2]
        rw [show 1 * c2 = c2 by omega] at ih
        have e : ([32, 43, 32] ++ Lib.itoa c2 ++ (tLit v2 ++ tTs ts) ++ r) = [32, 43, 32] ++ (Lib.itoa c2 ++ (tLit v2 ++ (tTs ts ++ r))) := by simp only [List.append_assoc]
        rw [e]
        generalize hY : Lib.itoa c2 ++ (tLit v2 ++ (tTs ts ++ r)) = Y at *
        have g1 : Lib.hasPrefix ([32, 43, 32] ++ Y) [32, 43, 32] = true := by simp [Lib.hasPrefix, List.isPrefixOf]
        have g3 : ([32, 43, 32] ++ Y).drop 3 = Y := rfl
        rw [g1, g3, ih]; rfl
theorem text_terms {r : List UInt8} : ∀ (k : Nat) (l : List UInt8) (first : Bool) (sign : Int) (ts : List (Int × Int)), sign = 1 ∨ sign = -1 → termsP k first sign l = some (ts, r) → (∀ x ∈ ts, x.2 ≠ 0) →
    ∃ c v ts', ts = (c, v) :: ts' ∧ l = Lib.itoa (sign * c) ++ (tLit v ++ (tTs ts' ++ r)) ∧ (first = false → 0 ≤ sign * c) ∧ ts'.length + 2 ≤ k
  | 0, l, first, sign, ts, _, h, _ => by cases h
  | k + 1, l, first, sign, ts, hsg, h, hne => by
    unfold termsP at h
    split at h
    · cases h
    rename_i c v l3 ht
    have hcc : sign * (sign * c) = c := by rcases hsg with rfl | rfl <;> omega
    split at h
    · cases h
    rename_i hk
    split at h
    · rename_i hp
      cases hm : termsP k false 1 (l3.drop 3) with
      | none => rw [hm] at h; cases h
      | some x =>
        obtain ⟨ts2, r2⟩ := x
        rw [hm] at h
        simp only [Option.map_some, Option.some.injEq, Prod.mk.injEq] at h
        obtain ⟨rfl, rfl⟩ := h
        obtain ⟨c2, v2, ts3, rfl, e2, p2, q2⟩ := text_terms k _ _ _ ts2 (Or.inl rfl) hm (fun x hx => hne x (List.mem_cons_of_mem _ hx))
        obtain ⟨e1, p1⟩ := lit_of_term ht (hne _ (List.mem_cons_self ..))
        refine ⟨_, _, _, rfl, ?_, fun hf => by rw [hcc]; exact p1 hf, by simp only [List.length_cons]; omega⟩
        have e3 := prefix_split hp
        have p2 := p2 rfl
        rw [show 1 * c2 = c2 by omega] at e2 p2
        rw [hcc, e1, e3]
        simp only [tTs, if_neg (show ¬ c2 < 0 by omega), List.append_assoc]
        rw [← e2]; rfl
    · split at h
      · rename_i hp
        split at h
        · cases h
        rename_i h48
        cases hm : termsP k false (-1) (l3.drop 3) with
        | none => rw [hm] at h; cases h
        | some x =>
          obtain ⟨ts2, r2⟩ := x
          rw [hm] at h
          simp only [Option.map_some, Option.some.injEq, Prod.mk.injEq] at h
          obtain ⟨rfl, rfl⟩ := h
          obtain ⟨c2, v2, ts3, rfl, e2, p2, q2⟩ := text_terms k _ _ _ ts2 (Or.inr rfl) hm (fun x hx => hne x (List.mem_cons_of_mem _ hx))
          obtain ⟨e1, p1⟩ := lit_of_term ht (hne _ (List.mem_cons_self ..))
          refine ⟨_, _, _, rfl, ?_, fun hf => by rw [hcc]; exact p1 hf, by simp only [List.length_cons]; omega⟩
          have e3 := prefix_split hp
          have p2 := p2 rfl
          rw [show -1 * c2 = -c2 by omega] at e2 p2
          have hlt : c2 < 0 := by
            rcases Int.lt_or_le c2 0 with h0 | h0
            · exact h0
            · have hz : c2 = 0 := by omega
              subst hz
              refine absurd ?_ h48
              have ez : Lib.itoa (-0) = [48] := by unfold Lib.itoa; rw [if_neg (by omega)]; exact Lib.decDigits_one (by omega)
              rw [e2, ez]; rfl
          rw [hcc, e1, e3]
          simp only [tTs, if_pos hlt, List.append_assoc]
          rw [← e2]; rfl
      · simp only [Option.some.injEq, Prod.mk.injEq] at h
        obtain ⟨rfl, rfl⟩ := h
        obtain ⟨e1, p1⟩ := lit_of_term ht (hne _ (List.mem_cons_self ..))
        refine ⟨_, _, _, rfl, ?_, fun hf => by rw [hcc]; exact p1 hf, by simp only [List.length_nil]; omega⟩
        rw [hcc, e1]; rfl
end Go.Proofs.YtchamkbnapjidaaDoor
