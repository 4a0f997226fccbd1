/- Sums: the normal form is valid and true in the same sets; what is left, too. Plain. -/
import Derived.Test.YtchamkbnapjidaaDoorSP
namespace Go.Proofs.YtchamkbnapjidaaDoor
open Go

def sumN (g : Nat → Int) : Nat → Int
  | 0 => 0
  | k + 1 => sumN g k + g k
theorem sumN_add (g h : Nat → Int) : ∀ k, sumN (fun v => g v + h v) k = sumN g k + sumN h k
  | 0 => rfl
  | k + 1 => by
    have := sumN_add g h k
    unfold sumN; omega
theorem sumN_zero (g : Nat → Int) : ∀ k, (∀ v, v < k → g v = 0) → sumN g k = 0
  | 0, _ => rfl
  | k + 1, h => by
    have := sumN_zero g k fun v hv => h v (by omega)
    have := h k (by omega)
    unfold sumN; omega
theorem sumN_one {a : Nat} {x : Int} : ∀ k, a < k → sumN (fun v => if a = v then x else 0) k = x
  | 0, h => by omega
  | k + 1, h => by
    unfold sumN
    by_cases e : a = k
    · subst e
      rw [if_pos rfl, sumN_zero _ a fun v hv => if_neg (by omega)]; omega
    · rw [if_neg e, sumN_one k (by omega)]; omega
theorem sumN_le (g h : Nat → Int) : ∀ k, (∀ v, v < k → g v ≤ h v) → sumN g k ≤ sumN h k
  | 0, _ => Int.le_refl _
  | k + 1, hl => by
    have := sumN_le g h k fun v hv => hl v (by omega)
    have := hl k (by omega)
    unfold sumN; omega
theorem sumN_congr (g h : Nat → Int) : ∀ k, (∀ v, v < k → g v = h v) → sumN g k = sumN h k
  | 0, _ => rfl
  | k + 1, hl => by
    have := sumN_congr g h k fun v hv => hl v (by omega)
    have := hl k (by omega)
    unfold sumN; omega

theorem sumN_succ (g : Nat → Int) (k : Nat) : sumN g (k + 1) = sumN g k + g k := rfl

/-- What the terms of a variable bring. -/
def grp (L : List Int) (f : Nat → Int) (v j : Nat) : Int := sumN (fun i => if (absI (L.getD i 0)).toNat = v then f i else 0) j
theorem grp_all (L : List Int) (f : Nat → Int) (k : Nat) : ∀ j, (∀ i, i < j → (absI (L.getD i 0)).toNat < k) → sumN (fun v => grp L f v j) k = sumN f j
  | 0, _ => sumN_zero _ k fun _ _ => rfl
  | j + 1, h => by
    have ih := grp_all L f k j fun i hi => h i (by omega)
    have e : (fun v => grp L f v (j + 1)) = fun v => grp L f v j + if (absI (L.getD j 0)).toNat = v then f j else 0 := rfl
    rw [e, sumN_add, ih, sumN_one k (h j (by omega))]; rfl

theorem valS_sumN (s : PS) (hold : Int → Bool) : ∀ j, valS s hold j = sumN (fun i => if hold (s.L.getD i 0) then s.C.getD i 0 else 0) j
  | 0 => rfl
  | j + 1 => by
    rw [valS_succ, valS_sumN s hold j, sumN_succ]
    split <;> simp
theorem abs_cases {l : Int} {v : Nat} (h : (absI l).toNat = v) : l = v ∨ l = -(v : Int) := by
  unfold absI at h; split at h <;> omega
theorem abs_pos (v : Nat) : (absI (v : Int)).toNat = v := by unfold absI; rw [if_neg (by omega)]; omega
theorem abs_neg (v : Nat) : (absI (-(v : Int))).toNat = v := by unfold absI; split <;> omega
/-- Sets: of a literal and its opposite one is true. -/
def Sound (hold : Int → Bool) : Prop := ∀ v : Nat, 1 ≤ v → hold (-(v : Int)) = !hold v
theorem contrib {s : PS} {hold : Int → Bool} (hh : Sound hold) {v : Nat} (hv : 1 ≤ v) : ∀ j, (if hold v then ofS s v j else ofS s (-(v : Int)) j) = grp s.L (fun i => if hold (s.L.getD i 0) then s.C.getD i 0 else 0) v j
  | 0 => by unfold ofS grp; split <;> rfl
  | j + 1 => by
    have ih := contrib (s := s) hh hv j
    unfold ofS at ih ⊢
    rw [valS_succ, valS_succ]
    unfold grp at ih ⊢
    rw [sumN_succ, ← ih]
    have h1 := hh v hv
    by_cases e : (absI (s.L.getD j 0)).toNat = v
    · rw [if_pos e]
      show _ = _ + (if hold (s.L.getD j 0) = true then s.C.getD j 0 else 0)
      generalize s.L.getD j 0 = l at *
      rcases abs_cases e with rfl | rfl
      · have hne : ¬ ((v : Int) = -(v : Int)) := by omega
        cases hb : hold (v : Int) <;> simp [hne]
      · have hne : ¬ (-(v : Int) = (v : Int)) := by omega
        rw [h1]
        cases hb : hold (v : Int) <;> simp [hne]
    · rw [if_neg e]
      have h2 : ¬ (s.L.getD j 0 = (v : Int)) := fun e1 => e (by rw [e1]; exact abs_pos v)
      have h3 : ¬ (s.L.getD j 0 = -(v : Int)) := fun e1 => e (by rw [e1]; exact abs_neg v)
      simp only [h2, h3, decide_false, Bool.false_eq_true, if_false]; omega
theorem grp_bound {s : PS} {v : Nat} : ∀ j, absI (ofS s v j - ofS s (-(v : Int)) j) ≤ grp s.L (fun i => absI (s.C.getD i 0)) v j ∧ (ofS s v j ≠ ofS s (-(v : Int)) j → 1 ≤ grp s.L (fun _ => 1) v j) ∧ 0 ≤ grp s.L (fun _ => 1) v j
  | 0 => ⟨by unfold ofS grp absI; simp [valS, sumN], fun h => absurd rfl h, Int.le_refl _⟩
  | j + 1 => by
    obtain ⟨i1, i2, i3⟩ := grp_bound (s := s) (v := v) j
    have g1 : ∀ f : Nat → Int, grp s.L f v (j + 1) = grp s.L f v j + if (absI (s.L.getD j 0)).toNat = v then f j else 0 := fun _ => rfl
    rw [g1, g1]
    have o1 : ∀ l, ofS s l (j + 1) = if s.L.getD j 0 = l then ofS s l j + s.C.getD j 0 else ofS s l j := fun l => by
      unfold ofS; rw [valS_succ]; simp
    rw [o1, o1]
    have ha := absI_nonneg (s.C.getD j 0)
    by_cases e : (absI (s.L.getD j 0)).toNat = v
    · rw [if_pos e, if_pos e]
      refine ⟨?_, fun _ => by omega, by omega⟩
      generalize ofS s (v : Int) j = p at *
      generalize ofS s (-(v : Int)) j = q at *
      generalize s.C.getD j 0 = c at *
      generalize grp s.L (fun i => absI (s.C.getD i 0)) v j = G at *
      unfold absI at *
      split <;> split <;> (split at i1 <;> split <;> split <;> omega)
    · rw [if_neg e, if_neg e]
      have h2 : ¬ (s.L.getD j 0 = (v : Int)) := fun e1 => e (by rw [e1]; exact abs_pos v)
      have h3 : ¬ (s.L.getD j 0 = -(v : Int)) := fun e1 => e (by rw [e1]; exact abs_neg v)
      rw [if_neg h2, if_neg h3]
      exact ⟨by omega, fun h => by have := i2 h; omega, by omega⟩

/-! ### The loop -/
theorem valS_old {C L : List Int} {m : Int} {c l : Int} (hold : Int → Bool) (h : C.length = L.length) : valS ⟨C ++ [c], L ++ [l], m⟩ hold (C.length + 1) = (if hold l then valS ⟨C, L, m⟩ hold C.length + c else valS ⟨C, L, m⟩ hold C.length) := by
  have key : ∀ j, j ≤ C.length → valS ⟨C ++ [c], L ++ [l], m⟩ hold j = valS ⟨C, L, m⟩ hold j := by
    intro j
    induction j with
    | zero => intro _; rfl
    | succ j ih =>
      intro hj
      rw [valS_succ, valS_succ, ih (by omega)]
      have e1 : (L ++ [l]).getD j 0 = L.getD j 0 := by simp [List.getD, List.getElem?_append, show j < L.length by omega]
      have e2 : (C ++ [c]).getD j 0 = C.getD j 0 := by simp [List.getD, List.getElem?_append, show j < C.length by omega]
      simp only [e1, e2]
  rw [valS_succ, key _ (Nat.le_refl _)]
  have e1 : (L ++ [l]).getD C.length 0 = l := by rw [h]; simp [List.getD]
  have e2 : (C ++ [c]).getD C.length 0 = c := by simp [List.getD]
  simp only [e1, e2]
theorem valS_m (C L : List Int) (m m' : Int) (hold : Int → Bool) (j : Nat) : valS ⟨C, L, m⟩ hold j = valS ⟨C, L, m'⟩ hold j := rfl

/-- What the loop over the variables keeps. -/
structure NInv (s : PS) (k : Nat) (st : NSt) : Prop where
  len : st.C.length = st.L.length
  pos : ∀ c ∈ st.C, 1 ≤ c
  lits : ∀ l ∈ st.L, l ≠ 0 ∧ (absI l).toNat < k ∧ ∃ i, i < s.L.length ∧ (absI (s.L.getD i 0)).toNat = (absI l).toNat
  tot : st.t = sumAbs st.C
  val : ∀ hold, Sound hold → valS ⟨st.C, st.L, 0⟩ hold st.C.length - st.m = sumN (fun v => grp s.L (fun i => if hold (s.L.getD i 0) then s.C.getD i 0 else 0) v s.L.length) k - s.m
  cnt : (st.C.length : Int) ≤ sumN (fun v => grp s.L (fun _ => 1) v s.L.length) k
  sum : st.t ≤ sumN (fun v => grp s.L (fun i => absI (s.C.getD i 0)) v s.L.length) k
theorem grp_some {L : List Int} {v : Nat} : ∀ j, 1 ≤ grp L (fun _ => 1) v j → ∃ i, i < j ∧ (absI (L.getD i 0)).toNat = v
  | 0, h => by have : grp L (fun _ => 1) v 0 = 0 := rfl
               omega
  | j + 1, h => by
    by_cases e : (absI (L.getD j 0)).toNat = v
    · exact ⟨j, by omega, e⟩
    · have e1 : grp L (fun _ => 1) v (j + 1) = grp L (fun _ => 1) v j + if (absI (L.getD j 0)).toNat = v then 1 else 0 := rfl
      rw [e1, if_neg e] at h
      obtain ⟨i, h1, h2⟩ := grp_some (L := L) (v := v) j (by omega)
      exact ⟨i, by omega, h2⟩
theorem nInv (s : PS) (hL : ∀ l ∈ s.L, l ≠ 0) : ∀ k, NInv s k (nLoop s (List.range k))
  | 0 => ⟨rfl, by simp [nLoop], by simp [nLoop], rfl, fun hold _ => by simp [nLoop, sumN, valS], Int.le_refl _, Int.le_refl _⟩
  | k + 1 => by
    have ih := nInv s hL k
    have e : nLoop s (List.range (k + 1)) = nStep s (nLoop s (List.range k)) k := by unfold nLoop; rw [List.range_succ, List.foldl_append]; rfl
    rw [e]
    generalize nLoop s (List.range k) = st at ih
    have hS : ∀ g : Nat → Int, sumN g (k + 1) = sumN g k + g k := fun _ => rfl
    obtain ⟨b1, b2, b3⟩ := grp_bound (s := s) (v := k) s.L.length
    have hv : ∀ hold, Sound hold → (if hold k then ofS s k s.L.length else ofS s (-(k : Int)) s.L.length) = grp s.L (fun i => if hold (s.L.getD i 0) then s.C.getD i 0 else 0) k s.L.length := fun hold hh => by
      rcases Nat.eq_zero_or_pos k with rfl | hk
      · have z1 : ∀ j, j ≤ s.L.length → ofS s ((0 : Nat) : Int) j = 0 := by
          intro j
          induction j with
          | zero => intro _; rfl
          | succ j ihj =>
            intro hj
            have hne := hL (s.L.getD j 0) (by simp [List.getD, show j < s.L.length by omega])
            have hd : decide (s.L.getD j 0 = ((0 : Nat) : Int)) = false := by rw [decide_eq_false_iff_not]; exact hne
            have := ihj (by omega)
            unfold ofS at this ⊢
            rw [valS_succ, hd, this]; rfl
        have z2 : grp s.L (fun i => if hold (s.L.getD i 0) then s.C.getD i 0 else 0) 0 s.L.length = 0 := sumN_zero _ _ fun i hi => by
          have hne := hL (s.L.getD i 0) (by simp [List.getD, show i < s.L.length by omega])
          rw [if_neg]
          intro h0
          rcases abs_cases h0 with h0 | h0 <;> exact hne (by simpa using h0)
        rw [z2, show (-((0 : Nat) : Int)) = ((0 : Nat) : Int) by omega, z1 _ (Nat.le_refl _)]; simp
      · exact contrib hh hk _
    have hk0 : ofS s k s.L.length ≠ ofS s (-(k : Int)) s.L.length → k ≠ 0 := fun h e0 => by
      subst e0; exact h rfl
    unfold nStep
    simp only []
    generalize ofS s k s.L.length = p at *
    generalize ofS s (-(k : Int)) s.L.length = q at *
    by_cases c1 : q < p
    · have hne : k ≠ 0 := hk0 (by omega)
      obtain ⟨i, hi1, hi2⟩ := grp_some _ (b2 (by omega))
      rw [if_pos c1, if_pos c1]
      refine ⟨by simp [ih.len], fun c hc => ?_, fun l hl => ?_, ?_, fun hold hh => ?_, ?_, ?_⟩
      · rcases List.mem_append.1 hc with hc | hc
        · exact ih.pos c hc
        · rw [List.mem_singleton] at hc; omega
      · rcases List.mem_append.1 hl with hl | hl
        · have := ih.lits l hl; exact ⟨this.1, by omega, this.2.2⟩
        · rw [List.mem_singleton] at hl; subst hl
          exact ⟨by omega, by rw [abs_pos]; omega, i, hi1, by rw [hi2, abs_pos]⟩
      · rw [sumAbs_append, ← ih.tot, sumAbs_cons]
        simp only [sumAbs, List.foldl_nil]
        unfold absI; rw [if_neg (by omega)]; omega
      · rw [List.length_append, List.length_singleton, valS_old hold ih.len, hS, ← hv hold hh]
        have := ih.val hold hh
        cases hold (k : Int) <;> simp only [Bool.false_eq_true, if_false, if_true] <;> omega
      · rw [hS, List.length_append, List.length_singleton]
        have := b2 (by omega); have := ih.cnt; omega
      · rw [hS]
        have := ih.sum
        have e1 : absI (p - q) = p - q := by unfold absI; rw [if_neg (by omega)]
        rw [e1] at b1
        show st.t + (p + q - 2 * min p q) ≤ _ + _
        omega
    · rw [if_neg c1, if_neg c1]
      by_cases c2 : p < q
      · have hne : k ≠ 0 := hk0 (by omega)
        obtain ⟨i, hi1, hi2⟩ := grp_some _ (b2 (by omega))
        rw [if_pos c2, if_pos c2]
        refine ⟨by simp [ih.len], fun c hc => ?_, fun l hl => ?_, ?_, fun hold hh => ?_, ?_, ?_⟩
        · rcases List.mem_append.1 hc with hc | hc
          · exact ih.pos c hc
          · rw [List.mem_singleton] at hc; omega
        · rcases List.mem_append.1 hl with hl | hl
          · have := ih.lits l hl; exact ⟨this.1, by omega, this.2.2⟩
          · rw [List.mem_singleton] at hl; subst hl
            exact ⟨by omega, by rw [abs_neg]; omega, i, hi1, by rw [hi2, abs_neg]⟩
        · rw [sumAbs_append, ← ih.tot, sumAbs_cons]
          simp only [sumAbs, List.foldl_nil]
          unfold absI; rw [if_neg (by omega)]; omega
        · rw [List.length_append, List.length_singleton, valS_old hold ih.len, hS, ← hv hold hh, hh k (by omega)]
          have := ih.val hold hh
          cases hold (k : Int) <;> simp only [Bool.not_true, Bool.not_false, Bool.false_eq_true, if_false, if_true] <;> omega
        · rw [hS, List.length_append, List.length_singleton]
          have := b2 (by omega); have := ih.cnt; omega
        · rw [hS]
          have := ih.sum
          have e1 : absI (p - q) = q - p := by unfold absI; rw [if_pos (by omega)]; omega
          rw [e1] at b1
          show st.t + (p + q - 2 * min p q) ≤ _ + _
          omega
      · rw [if_neg c2, if_neg c2]
        have hpq : p = q := by omega
        subst hpq
        refine ⟨ih.len, ih.pos, fun l hl => ?_, ?_, fun hold hh => ?_, ?_, ?_⟩
        · have := ih.lits l hl; exact ⟨this.1, by omega, this.2.2⟩
        · have := ih.tot; simp only; omega
        · rw [hS, ← hv hold hh]
          have := ih.val hold hh
          cases hold (k : Int) <;> simp only [Bool.false_eq_true, if_false, if_true] <;> omega
        · rw [hS]
          have := ih.cnt
          show (st.C.length : Int) ≤ _ + _
          omega
        · rw [hS]
          have := ih.sum
          have e1 : absI (p - p) = 0 := by unfold absI; rw [if_neg (by omega)]; omega
          rw [e1] at b1
          show st.t + (p + p - 2 * min p p) ≤ _ + _
          omega

theorem sumN_abs : ∀ (C : List Int), sumN (fun i => absI (C.getD i 0)) C.length = sumAbs C := by
  intro C
  have : ∀ j, j ≤ C.length → sumN (fun i => absI (C.getD i 0)) j = sumAbs (C.take j) := by
    intro j
    induction j with
    | zero => intro _; rfl
    | succ j ih =>
      intro hj
      have e : C.take (j + 1) = C.take j ++ [C.getD j 0] := by
        rw [List.take_add_one, List.getElem?_eq_getElem (show j < C.length by omega)]
        simp [List.getD, List.getElem?_eq_getElem (show j < C.length by omega)]
      rw [e, sumAbs_append, sumAbs_cons, ← ih (by omega)]
      simp only [sumAbs, List.foldl_nil, sumN]; omega
  rw [this _ (Nat.le_refl _), List.take_length]
theorem sumN_const (n : Nat) : sumN (fun _ => 1) n = (n : Int) := by
  induction n with
  | zero => rfl
  | succ n ih => unfold sumN; omega

theorem clip_sum (m : Int) (h : 0 ≤ m) : ∀ C : List Int, (∀ c ∈ C, 1 ≤ c) → sumAbs (C.map fun c => min c m) ≤ sumAbs C ∧ (m ≤ sumAbs C → m ≤ sumAbs (C.map fun c => min c m))
  | [], _ => ⟨Int.le_refl _, fun h => h⟩
  | c :: C, hc => by
    obtain ⟨i1, i2⟩ := clip_sum m h C fun d hd => hc d (List.mem_cons_of_mem _ hd)
    have h1 := hc c (List.mem_cons_self ..)
    have h2 := sumAbs_nonneg (C.map fun c => min c m)
    rw [List.map_cons, sumAbs_cons, sumAbs_cons]
    have e1 : absI c = c := by unfold absI; rw [if_neg (by omega)]
    have e2 : absI (min c m) = min c m := by unfold absI; rw [if_neg (by omega)]
    rw [e1, e2]
    refine ⟨by omega, fun hm => ?_⟩
    by_cases hcm : c ≤ m
    · by_cases hC : m ≤ sumAbs C
      · have := i2 hC; omega
      · have hsame : sumAbs (C.map fun c => min c m) = sumAbs C := by
          have : ∀ D : List Int, (∀ c ∈ D, 1 ≤ c) → sumAbs D < m → D.map (fun c => min c m) = D := by
            intro D
            induction D with
            | nil => intros; rfl
            | cons d D ih =>
              intro hd hs
              rw [sumAbs_cons] at hs
              have a1 := hd d (List.mem_cons_self ..)
              have a2 := sumAbs_nonneg D
              have a3 := absI_nonneg d
              have a4 : absI d = d := by unfold absI; rw [if_neg (by omega)]
              rw [List.map_cons, ih (fun c hc => hd c (List.mem_cons_of_mem _ hc)) (by omega)]
              congr 1; omega
          rw [this C (fun d hd => hc d (List.mem_cons_of_mem _ hd)) (by omega)]
        omega
    · omega

theorem getD_map_min (C : List Int) (m : Int) (h : 0 ≤ m) (i : Nat) : (C.map fun c => min c m).getD i 0 = min (C.getD i 0) m := by
  simp only [List.getD, List.getElem?_map]
  cases C[i]? with
  | none => simp; omega
  | some c => rfl
theorem clip_val {C L : List Int} {m : Int} (hold : Int → Bool) (h : 0 ≤ m) (hc : ∀ c ∈ C, 1 ≤ c) : ∀ j, j ≤ C.length → (0 ≤ valS ⟨C.map fun c => min c m, L, m⟩ hold j ∧ (m ≤ valS ⟨C, L, m⟩ hold j → m ≤ valS ⟨C.map fun c => min c m, L, m⟩ hold j) ∧ valS ⟨C.map fun c => min c m, L, m⟩ hold j ≤ valS ⟨C, L, m⟩ hold j ∧ (valS ⟨C, L, m⟩ hold j < m → valS ⟨C.map fun c => min c m, L, m⟩ hold j = valS ⟨C, L, m⟩ hold j))
  | 0, _ => ⟨Int.le_refl _, fun h => h, Int.le_refl _, fun _ => rfl⟩
  | j + 1, hj => by
    obtain ⟨i1, i2, i3, i4⟩ := clip_val (L := L) hold h hc j (by omega)
    rw [valS_succ, valS_succ]
    have h1 := hc (C.getD j 0) (by simp [List.getD, show j < C.length by omega])
    have e := getD_map_min C m h j
    simp only [e]
    generalize C.getD j 0 = c at *
    cases hold (L.getD j 0)
    · exact ⟨i1, i2, i3, i4⟩
    · simp only [if_true]
      refine ⟨by omega, fun hm => ?_, by omega, fun hm => ?_⟩
      · by_cases hcm : c ≤ m
        · by_cases hv : m ≤ valS ⟨C, L, m⟩ hold j
          · have := i2 hv; omega
          · have := i4 (by omega); omega
        · omega
      · have := i4 (by omega); omega

theorem val_nonneg {C L : List Int} {m : Int} (hold : Int → Bool) (hc : ∀ c ∈ C, 1 ≤ c) : ∀ j, j ≤ C.length → 0 ≤ valS ⟨C, L, m⟩ hold j
  | 0, _ => Int.le_refl _
  | j + 1, hj => by
    have := val_nonneg (L := L) (m := m) hold hc j (by omega)
    have h1 := hc (C.getD j 0) (by simp [List.getD, show j < C.length by omega])
    rw [valS_succ]
    simp only
    split <;> omega
theorem val_le (s : PS) (hold : Int → Bool) (j : Nat) (hj : j ≤ s.C.length) : valS s hold j ≤ sumAbs (s.C.take j) ∧ -sumAbs (s.C.take j) ≤ valS s hold j := by
  induction j with
  | zero => exact ⟨Int.le_refl _, Int.le_refl _⟩
  | succ j ih =>
    obtain ⟨i1, i2⟩ := ih (by omega)
    have e : s.C.take (j + 1) = s.C.take j ++ [s.C.getD j 0] := by
      rw [List.take_add_one, List.getElem?_eq_getElem (show j < s.C.length by omega)]
      simp [List.getD, List.getElem?_eq_getElem (show j < s.C.length by omega)]
    rw [e, sumAbs_append, sumAbs_cons, valS_succ]
    have h0 : sumAbs [] = 0 := rfl
    rw [h0]
    have h1 : s.C.getD j 0 ≤ absI (s.C.getD j 0) ∧ -(absI (s.C.getD j 0)) ≤ s.C.getD j 0 ∧ 0 ≤ absI (s.C.getD j 0) := by unfold absI; split <;> omega
    split <;> omega

theorem zero_ok {n : Int} (h0 : 0 ≤ n) (h1 : n ≤ 128) : PS.zero.Ok n := ⟨h0, h1, rfl, by simp [PS.zero], by simp [PS.zero], by simp [PS.zero], by simp [PS.zero, sumAbs], by simp [PS.zero], by simp [PS.zero]⟩

/-- THE NORMAL FORM: valid, and true in the same sets. -/
theorem norm_ok {s : PS} {n : Int} (h : s.Ok n) : (nEnd (nLoop s (List.range 129))).Ok n ∧ ∀ hold, Sound hold → evalS (nEnd (nLoop s (List.range 129))) hold = evalS s hold := by
  have hI := nInv s (fun l hl => (h.lit l hl).1) 129
  have hlt : ∀ i, i < s.L.length → (absI (s.L.getD i 0)).toNat < 129 := fun i hi => by
    have h1 := h.lit (s.L.getD i 0) (by simp [List.getD, hi])
    have h2 := h.n1
    unfold absI; split <;> omega
  have hcnt := hI.cnt
  rw [grp_all s.L _ 129 _ hlt, sumN_const] at hcnt
  have hsum := hI.sum
  rw [grp_all s.L _ 129 _ hlt, ← h.len, sumN_abs] at hsum
  have hval := fun hold (hh : Sound hold) => by
    have := hI.val hold hh
    rw [grp_all s.L _ 129 _ hlt, ← valS_sumN] at this
    exact this
  have h128 : s.Ok 128 := ⟨by omega, by omega, h.len, h.l64, fun l hl => by have := h.lit l hl; have := h.n1; omega, h.co, h.sum, h.m0, h.m1⟩
  have hev : ∀ hold, evalS s hold = decide (s.m ≤ valS s hold s.L.length) := fun hold => by
    unfold evalS; rw [check_ok.2 h128]; simp
  generalize nLoop s (List.range 129) = st at *
  have hlen := hI.len
  have hpos := hI.pos
  have htot := hI.tot
  have hS := h.sum
  have hl64 := h.l64
  have hn0 := h.n0
  have hn1 := h.n1
  have hlen2 := h.len
  have ok : (nEnd st).Ok n := by
    unfold nEnd
    split
    · exact zero_ok hn0 hn1
    split
    · exact ⟨hn0, hn1, rfl, by simp, by simp, by simp, by simp [sumAbs], by simp, by simp⟩
    · rename_i m0 m1
      have hc := (clip_sum st.m (by omega) st.C hpos).1
      refine ⟨hn0, hn1, by simp [hlen], by simp only [List.length_map]; omega, fun l hl => ?_, fun c hc => ?_, by simp only; omega, by simp only; omega, by simp only; omega⟩
      · obtain ⟨h1, h2, i, hi, h3⟩ := hI.lits l hl
        have h4 := h.lit (s.L.getD i 0) (by simp [List.getD, hi])
        refine ⟨h1, ?_⟩
        unfold absI at h3
        split at h3 <;> split at h3 <;> omega
      · obtain ⟨d, hd, rfl⟩ := List.mem_map.1 hc
        have := hpos d hd
        omega
  refine ⟨ok, fun hold hh => ?_⟩
  have ok128 : (nEnd st).Ok 128 := ⟨by omega, by omega, ok.len, ok.l64, fun l hl => by have := ok.lit l hl; omega, ok.co, ok.sum, ok.m0, ok.m1⟩
  have hv := hval hold hh
  rw [hev]
  unfold evalS
  rw [check_ok.2 ok128]
  simp only [decide_true, Bool.true_and]
  have hb := val_le ⟨st.C, st.L, 0⟩ hold st.C.length (Nat.le_refl _)
  simp only [List.take_length] at hb
  have hnn := val_nonneg (L := st.L) (m := 0) hold hpos st.C.length (Nat.le_refl _)
  unfold nEnd
  split
  · have e1 : valS PS.zero hold PS.zero.L.length = 0 := rfl
    rw [e1]
    have : PS.zero.m = 0 := rfl
    rw [this]
    congr 1
    apply propext
    constructor <;> intro _ <;> omega
  split
  · have e1 : valS ⟨[], [], 1⟩ hold (⟨[], [], 1⟩ : PS).L.length = 0 := rfl
    rw [e1]
    show decide ((1 : Int) ≤ 0) = _
    congr 1
    apply propext
    constructor <;> intro h' <;> omega
  · rename_i m0 m1
    obtain ⟨c1, c2, c3, c4⟩ := clip_val (L := st.L) hold (show 0 ≤ st.m by omega) hpos st.C.length (Nat.le_refl _)
    have hm : valS ⟨st.C, st.L, st.m⟩ hold st.C.length = valS ⟨st.C, st.L, 0⟩ hold st.C.length := rfl
    rw [hm] at c2 c3 c4
    show decide (st.m ≤ valS ⟨st.C.map fun c => min c st.m, st.L, st.m⟩ hold st.L.length) = decide (s.m ≤ valS s hold s.L.length)
    rw [← hlen]
    congr 1
    apply propext
    constructor
    · intro h'; omega
    · intro h'; exact c2 (by omega)
end Go.Proofs.YtchamkbnapjidaaDoor
