/- Sums (chapter 09): what the program computes. Plain. -/
import Derived.Lib.Strings
import Derived.Lib.ItoaMem
import Derived.Lib.Atoi
namespace Go.Proofs.YtchamkbnapjidaaDoor
open Go

/-- A sum. -/
structure PS where
  C : List Int
  L : List Int
  m : Int
def PS.zero : PS := ⟨[], [], 0⟩

def litOk (l n : Int) : Bool := decide (l ≠ 0) && (decide (-n ≤ l) && decide (l ≤ n))
theorem litOk_iff {l n : Int} : litOk l n = true ↔ l ≠ 0 ∧ -n ≤ l ∧ l ≤ n := by simp [litOk]
def absI (c : Int) : Int := if c < 0 then -c else c
def sumAbs (C : List Int) : Int := C.foldl (fun a c => a + absI c) 0
theorem foldl_add (f : Int → Int) : ∀ (l : List Int) (a : Int), l.foldl (fun a c => a + f c) a = a + l.foldl (fun a c => a + f c) 0
  | [], a => by simp
  | c :: l, a => by
    rw [List.foldl_cons, List.foldl_cons, foldl_add f l (a + f c), foldl_add f l (0 + f c)]; omega
theorem sumAbs_cons (c : Int) (C : List Int) : sumAbs (c :: C) = absI c + sumAbs C := by
  unfold sumAbs
  rw [List.foldl_cons, foldl_add]; omega
theorem sumAbs_append (C D : List Int) : sumAbs (C ++ D) = sumAbs C + sumAbs D := by
  unfold sumAbs
  rw [List.foldl_append, foldl_add]
theorem absI_nonneg (c : Int) : 0 ≤ absI c := by unfold absI; split <;> omega
theorem sumAbs_nonneg : ∀ C : List Int, 0 ≤ sumAbs C
  | [] => by simp [sumAbs]
  | c :: C => by
    have := sumAbs_nonneg C
    have := absI_nonneg c
    rw [sumAbs_cons]; omega
theorem sumAbs_le {K : Int} : ∀ {C : List Int}, (∀ c ∈ C, -K ≤ c ∧ c ≤ K) → sumAbs C ≤ K * C.length
  | [], _ => by simp [sumAbs]
  | c :: C, h => by
    have h1 := sumAbs_le (fun d hd => h d (List.mem_cons_of_mem _ hd) : ∀ d ∈ C, -K ≤ d ∧ d ≤ K)
    have h2 := h c (List.mem_cons_self ..)
    have h3 : absI c ≤ K := by unfold absI; split <;> omega
    rw [sumAbs_cons, List.length_cons]
    have : K * ((C.length + 1 : Nat) : Int) = K * C.length + K := by rw [Int.natCast_add, Int.mul_add]; simp
    omega

def coefOk (c : Int) : Bool := decide (-1000000000 ≤ c) && decide (c ≤ 1000000000)
/-- Which sums are valid: an error's number. -/
def checkS (s : PS) (n : Int) : Int :=
  if n < 0 ∨ 128 < n then 6
  else if s.C.length ≠ s.L.length then 1
  else if 64 < s.C.length then 2
  else if s.L.all (fun l => litOk l n) = false then 1
  else if s.C.all coefOk = false then 6
  else if 1000000000 < sumAbs s.C ∨ s.m < -1000000000 ∨ 1000000000 < s.m then 6
  else 0
structure PS.Ok (s : PS) (n : Int) : Prop where
  n0 : 0 ≤ n
  n1 : n ≤ 128
  len : s.C.length = s.L.length
  l64 : s.C.length ≤ 64
  lit : ∀ l ∈ s.L, l ≠ 0 ∧ -n ≤ l ∧ l ≤ n
  co : ∀ c ∈ s.C, -1000000000 ≤ c ∧ c ≤ 1000000000
  sum : sumAbs s.C ≤ 1000000000
  m0 : -1000000000 ≤ s.m
  m1 : s.m ≤ 1000000000
theorem check_ok {s : PS} {n : Int} : checkS s n = 0 ↔ s.Ok n := by
  unfold checkS
  constructor
  · intro h
    by_cases h1 : n < 0 ∨ 128 < n
    · rw [if_pos h1] at h; omega
    rw [if_neg h1] at h
    by_cases h2 : s.C.length ≠ s.L.length
    · rw [if_pos h2] at h; omega
    rw [if_neg h2] at h
    by_cases h3 : 64 < s.C.length
    · rw [if_pos h3] at h; omega
    rw [if_neg h3] at h
    by_cases h4 : s.L.all (fun l => litOk l n) = false
    · rw [if_pos h4] at h; omega
    rw [if_neg h4] at h
    by_cases h5 : s.C.all coefOk = false
    · rw [if_pos h5] at h; omega
    rw [if_neg h5] at h
    by_cases h6 : 1000000000 < sumAbs s.C ∨ s.m < -1000000000 ∨ 1000000000 < s.m
    · rw [if_pos h6] at h; omega
    rw [Bool.not_eq_false, List.all_eq_true] at h4 h5
    exact ⟨by omega, by omega, by omega, by omega, fun l hl => litOk_iff.1 (h4 l hl), fun c hc => by simpa [coefOk] using h5 c hc, by omega, by omega, by omega⟩
  · intro h
    have h4 : s.L.all (fun l => litOk l n) = true := List.all_eq_true.2 fun l hl => litOk_iff.2 (h.lit l hl)
    have h5 : s.C.all coefOk = true := List.all_eq_true.2 fun c hc => by simpa [coefOk] using h.co c hc
    have a1 := h.n0; have a2 := h.n1; have a3 := h.len; have a4 := h.l64; have a5 := h.sum; have a6 := h.m0; have a7 := h.m1
    rw [if_neg (by omega), if_neg (by omega), if_neg (by omega), if_neg (by rw [h4]; simp), if_neg (by rw [h5]; simp), if_neg (by omega)]

/-- The sum of the coefficients of the literals that hold. -/
def valS (s : PS) (hold : Int → Bool) (j : Nat) : Int := (List.range j).foldl (fun a i => if hold (s.L.getD i 0) then a + s.C.getD i 0 else a) 0
theorem valS_succ (s : PS) (hold : Int → Bool) (j : Nat) : valS s hold (j + 1) = if hold (s.L.getD j 0) then valS s hold j + s.C.getD j 0 else valS s hold j := by
  unfold valS
  rw [List.range_succ, List.foldl_append]; rfl
def evalS (s : PS) (hold : Int → Bool) : Bool := decide (checkS s 128 = 0) && decide (s.m ≤ valS s hold s.L.length)

/-- Normal forms: the state of the loop over the variables. -/
structure NSt where
  m : Int
  t : Int
  C : List Int
  L : List Int
def ofS (s : PS) (l : Int) (j : Nat) : Int := valS s (fun x => decide (x = l)) j
def nStep (s : PS) (st : NSt) (v : Nat) : NSt :=
  let p := ofS s v s.L.length
  let q := ofS s (-(v : Int)) s.L.length
  ⟨st.m - min p q, st.t + (p + q - 2 * min p q), if q < p then st.C ++ [p - q] else if p < q then st.C ++ [q - p] else st.C, if q < p then st.L ++ [(v : Int)] else if p < q then st.L ++ [-(v : Int)] else st.L⟩
def nLoop (s : PS) (l : List Nat) : NSt := l.foldl (nStep s) ⟨s.m, 0, [], []⟩
def nEnd (st : NSt) : PS := if st.m ≤ 0 then .zero else if st.t < st.m then ⟨[], [], 1⟩ else ⟨st.C.map fun c => min c st.m, st.L, st.m⟩
def normS (s : PS) (n : Int) : PS × Int := if checkS s n ≠ 0 then (.zero, checkS s n) else (nEnd (nLoop s (List.range 129)), 0)

/-- What is left, given a term. -/
def termOk (t : List Int) (n : Int) : Bool := t.all (fun l => litOk l n) && t.all fun l => !t.contains (-l)
def gStep (s : PS) (t : List Int) (u : PS) (i : Nat) : PS :=
  if s.L.getD i 0 ∈ t then ⟨u.C, u.L, u.m - s.C.getD i 0⟩ else if -(s.L.getD i 0) ∈ t then u else ⟨u.C ++ [s.C.getD i 0], u.L ++ [s.L.getD i 0], u.m⟩
def gLoop (s : PS) (t : List Int) (j : Nat) : PS := (List.range j).foldl (gStep s t) ⟨[], [], s.m⟩
def clampI (x : Int) : Int := max (-1000000000) (min 1000000000 x)
def givenS (s : PS) (t : List Int) (n : Int) : PS × Int :=
  if checkS s n ≠ 0 then (.zero, checkS s n) else if termOk t n = false then (.zero, 1)
  else (⟨(gLoop s t s.L.length).C, (gLoop s t s.L.length).L, clampI (gLoop s t s.L.length).m⟩, 0)

/-- Texts. -/
def tLit (l : Int) : List UInt8 := if l < 0 then [32, 126, 120] ++ Lib.itoa (-l) else [32, 120] ++ Lib.itoa l
def tTerm (i : Nat) (c l : Int) : List UInt8 := (if i = 0 then Lib.itoa c else if c < 0 then [32, 45, 32] ++ Lib.itoa (-c) else [32, 43, 32] ++ Lib.itoa c) ++ tLit l
def tTerms (s : PS) (j : Nat) : List UInt8 := (List.range j).flatMap fun i => tTerm i (s.C.getD i 0) (s.L.getD i 0)
def tEnd (m : Int) : List UInt8 := [32, 62, 61, 32] ++ Lib.itoa m
def textS (s : PS) : List UInt8 := (if s.C.length = 0 then [48] else tTerms s s.C.length) ++ tEnd s.m
def printS (s : PS) : List UInt8 × Int := if checkS s 128 ≠ 0 then ([], checkS s 128) else (textS s, 0)

/-- Readings. -/
def isDig (c : UInt8) : Bool := decide (48 ≤ c.toNat) && decide (c.toNat ≤ 57)
def digN (l : List UInt8) : Nat := (l.takeWhile isDig).length
def decV (l : List UInt8) : Nat := l.foldl (fun a c => a * 10 + (c.toNat - 48)) 0
def numBad (neg : Bool) (l : List UInt8) : Bool := decide (digN l = 0) || (decide (10 < digN l) || (decide (l.head? = some 48) && (decide (1 < digN l) || neg)))
def numNeg (signed : Bool) (l : List UInt8) : Bool := signed && Lib.hasPrefix l [45]
def numRest (signed : Bool) (l : List UInt8) : List UInt8 := if numNeg signed l then l.drop 1 else l
def numP (signed : Bool) (l : List UInt8) : Option (Int × List UInt8) :=
  if numBad (numNeg signed l) (numRest signed l) then none
  else some ((if numNeg signed l then -1 else 1) * (decV ((numRest signed l).take (digN (numRest signed l))) : Nat), (numRest signed l).drop (digN (numRest signed l)))
def wayP (l : List UInt8) : Option (Int × List UInt8) :=
  if Lib.hasPrefix l [32, 126, 120] then some (-1, l.drop 3) else if Lib.hasPrefix l [32, 120] then some (1, l.drop 2) else none
/-- One term: its coefficient without the sign, its literal, and the rest. -/
def termP (first : Bool) (l : List UInt8) : Option (Int × Int × List UInt8) :=
  match numP first l with
  | none => none
  | some (c, l1) => match wayP l1 with
    | none => none
    | some (w, l2) => match numP false l2 with
      | none => none
      | some (v, l3) => some (c, w * v, l3)
def termsP : Nat → Bool → Int → List UInt8 → Option (List (Int × Int) × List UInt8)
  | 0, _, _, _ => none
  | k + 1, first, sign, l =>
    match termP first l with
    | none => none
    | some (c, v, l3) =>
      if k = 0 then none
      else if Lib.hasPrefix l3 [32, 43, 32] then (termsP k false 1 (l3.drop 3)).map fun x => ((sign * c, v) :: x.1, x.2)
      else if Lib.hasPrefix l3 [32, 45, 32] then
        if Lib.hasPrefix (l3.drop 3) [48] then none else (termsP k false (-1) (l3.drop 3)).map fun x => ((sign * c, v) :: x.1, x.2)
      else some ([(sign * c, v)], l3)
def headP (l : List UInt8) : Option (List (Int × Int) × List UInt8) :=
  if Lib.hasPrefix l [48, 32, 62, 61, 32] then some ([], l.drop 1) else termsP 65 true 1 l
def parseS (l : List UInt8) : Option PS :=
  match headP l with
  | none => none
  | some (ts, l1) =>
    if Lib.hasPrefix l1 [32, 62, 61, 32] = false then none
    else match numP true (l1.drop 4) with
      | none => none
      | some (m, l2) => if l2 ≠ [] ∨ checkS ⟨ts.map (·.1), ts.map (·.2), m⟩ 128 ≠ 0 then none else some ⟨ts.map (·.1), ts.map (·.2), m⟩

theorem takeWhile_take : ∀ (l : List UInt8), l.take (digN l) = l.takeWhile isDig
  | [] => rfl
  | c :: l => by
    have ih := takeWhile_take l
    unfold digN at ih ⊢
    rw [List.takeWhile_cons]
    by_cases h : isDig c = true
    · rw [if_pos h, List.length_cons, List.take_succ_cons, ih]
    · rw [if_neg h]; rfl
theorem dig_all (l : List UInt8) : ∀ c ∈ l.take (digN l), isDig c = true := by
  rw [takeWhile_take]
  induction l with
  | nil => simp
  | cons c l ih =>
    rw [List.takeWhile_cons]
    by_cases h : isDig c = true
    · rw [if_pos h]
      intro d hd
      rcases List.mem_cons.1 hd with rfl | hd
      · exact h
      · exact ih d hd
    · rw [if_neg h]; simp
theorem digN_le (l : List UInt8) : digN l ≤ l.length := by
  unfold digN
  induction l with
  | nil => simp
  | cons c l ih =>
    rw [List.takeWhile_cons]
    split
    · simp only [List.length_cons]; omega
    · simp
theorem decFrom_dig : ∀ (l : List UInt8) (a : Nat), (∀ c ∈ l, isDig c = true) → Lib.decFrom a l = some (l.foldl (fun a c => a * 10 + (c.toNat - 48)) a)
  | [], a, _ => rfl
  | c :: l, a, h => by
    have hc := h c (List.mem_cons_self ..)
    simp only [isDig, Bool.and_eq_true, decide_eq_true_eq] at hc
    simp only [Lib.decFrom, Lib.digitVal, hc, and_self, if_true, List.foldl_cons]
    exact decFrom_dig l _ fun d hd => h d (List.mem_cons_of_mem _ hd)
/-- What Atoi reads of digits. -/
theorem atoi_dig {l : List UInt8} (h0 : l ≠ []) (h : ∀ c ∈ l, isDig c = true) : Lib.atoi l = some (decV l : Nat) := by
  cases l with
  | nil => exact absurd rfl h0
  | cons c l =>
    have hc := h c (List.mem_cons_self ..)
    simp only [isDig, Bool.and_eq_true, decide_eq_true_eq] at hc
    have h1 : (c == 45) = false := by
      rw [beq_eq_false_iff_ne]; rintro rfl; exact absurd hc.1 (by decide)
    have h2 : (c == 43) = false := by
      rw [beq_eq_false_iff_ne]; rintro rfl; exact absurd hc.1 (by decide)
    simp only [Lib.atoi, h1, h2, Bool.false_eq_true, if_false, Lib.decNat, List.isEmpty_cons]
    rw [decFrom_dig _ _ h]; rfl
theorem decV_snoc (l : List UInt8) (c : UInt8) : decV (l ++ [c]) = decV l * 10 + (c.toNat - 48) := by
  unfold decV; rw [List.foldl_append]; rfl
theorem decV_lt : ∀ (n : Nat) (l : List UInt8), l.length = n → (∀ c ∈ l, isDig c = true) → decV l < 10 ^ n
  | 0, l, h, _ => by
    rw [List.length_eq_zero_iff] at h; subst h; simp [decV]
  | n + 1, l, h, hd => by
    have hne : l ≠ [] := by rintro rfl; simp at h
    obtain ⟨l', c, rfl⟩ : ∃ l' c, l = l' ++ [c] := ⟨l.dropLast, l.getLast hne, (List.dropLast_concat_getLast hne).symm⟩
    have h1 := decV_lt n l' (by simpa using h) (fun d hd' => hd d (by simp [hd']))
    have h2 := hd c (by simp)
    simp only [isDig, Bool.and_eq_true, decide_eq_true_eq] at h2
    rw [decV_snoc, Nat.pow_succ]
    omega
theorem numP_bound {signed : Bool} {l r : List UInt8} {c : Int} (h : numP signed l = some (c, r)) : -10000000000 < c ∧ c < 10000000000 := by
  unfold numP at h
  split at h
  · cases h
  · rename_i hb
    simp only [Option.some.injEq, Prod.mk.injEq] at h
    obtain ⟨rfl, _⟩ := h
    simp only [numBad, Bool.or_eq_true, decide_eq_true_eq, not_or] at hb
    generalize hx : numRest signed l = x at *
    have h1 := decV_lt _ (x.take (digN x)) rfl (dig_all x)
    have h2 : (x.take (digN x)).length ≤ 10 := by rw [List.length_take]; omega
    have h3 : (10 : Nat) ^ (x.take (digN x)).length ≤ 10 ^ 10 := Nat.pow_le_pow_right (by omega) h2
    have e : (10 : Nat) ^ 10 = 10000000000 := by decide
    generalize decV (x.take (digN x)) = D at *
    split <;> omega
end Go.Proofs.YtchamkbnapjidaaDoor
