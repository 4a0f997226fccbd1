/- Texts of this claim, joined: DP, DQ, DS. -/
import Derived.Test.YtajjgfiojlagmaaGreatDoorMO19
import Derived.Lib.ItoaMem

/- What is written in the format of chapter 06, and that it is read back. Plain. -/
namespace Go.Proofs.YtajjgfiojlagmaaGreatDoor
open Go

/-! ### Numerals -/
theorem e_digits : ∀ (k u : Nat), u < 10 ^ (k + 1) → Lib.nDigits u ≤ k + 1
  | 0, u, h => by rw [Lib.nDigits_small (by simpa using h)]; omega
  | k + 1, u, h => by
    by_cases h10 : u < 10
    · rw [Lib.nDigits_small h10]; omega
    · rw [Lib.nDigits_big h10]
      have := e_digits k (u / 10) (by rw [Nat.pow_succ] at h; omega)
      omega
theorem e_len {u : Nat} (k : Nat) (h : u < 10 ^ (k + 1)) : (Lib.decDigits u).length ≤ k + 1 := by
  rw [Lib.decDigits_length]
  exact e_digits k u h
theorem itoa_pos {z : Int} (h : 0 ≤ z) : Lib.itoa z = Lib.decDigits z.toNat := by unfold Lib.itoa; rw [if_neg (by omega)]
theorem itoa_min {z : Int} (h : z < 0) : Lib.itoa z = 45 :: Lib.decDigits z.natAbs := by unfold Lib.itoa; rw [if_pos h]
theorem itoa_le6 {z : Int} (h0 : -100000 < z) (h : z < 100000) : (Lib.itoa z).length ≤ 6 := by
  have e5 : (10 : Nat) ^ (4 + 1) = 100000 := by decide
  by_cases hz : z < 0
  · rw [itoa_min hz, List.length_cons]
    have := e_len (u := z.natAbs) 4 (by omega)
    omega
  · rw [itoa_pos (by omega)]
    have := e_len (u := z.toNat) 4 (by omega)
    omega

/-! ### Pieces -/
/-! ### What is written -/
def lnN (l : List Int) : List UInt8 := (l.flatMap fun x => Lib.itoa x ++ [32]) ++ [48]
def lnP (n m : Int) : List UInt8 := [112, 32, 99, 110, 102, 32] ++ (Lib.itoa n ++ 32 :: Lib.itoa m)
def lnS (sh : List Int) : List UInt8 := [99, 32, 112, 32, 115, 104, 111, 119, 32] ++ lnN sh
def lnW (x : Int × List UInt8) : List UInt8 := [99, 32, 112, 32, 119, 101, 105, 103, 104, 116, 32] ++ (Lib.itoa x.1 ++ 32 :: (x.2 ++ [32, 48]))
def linesP (n : Int) (L : List (List Int)) (sh : List Int) (ws : List (Int × List UInt8)) : List (List UInt8) := lnP n L.length :: ((if sh = [] then [] else [lnS sh]) ++ (ws.map lnW ++ L.map lnN))
def ptB (n : Int) (L : List (List Int)) (sh : List Int) (ws : List (Int × List UInt8)) : List UInt8 := (linesP n L sh ws).flatMap (· ++ [10])
def litBad (n : Int) (c : List Int) : Bool := c.any fun l => !validD l n
def clsC (n : Int) : List (List Int) → Int
  | [] => 0
  | c :: L => if 128 < c.length then 2 else if litBad n c = true then 1 else clsC n L
def showC (n : Int) : List Int → List Int → Int
  | _, [] => 0
  | s, v :: l => if v < 1 ∨ n < v then 6 else if v ∈ s then 4 else showC n (s ++ [v]) l
def wtsC (rd : List UInt8 → Bool) (n : Int) : List Int → List (Int × List UInt8) → Int
  | _, [] => 0
  | s, x :: l => if validD x.1 n = false then 6 else if x.1 ∈ s then 4 else if rd x.2 = false then 5 else wtsC rd n (s ++ [x.1]) l
def theoC (n : Int) (L : List (List Int)) : Int := if n < 0 ∨ 128 < n then 6 else if 4096 < L.length then 2 else clsC n L
def checkD (rd : List UInt8 → Bool) (n : Int) (L : List (List Int)) (sh : List Int) (ws : List (Int × List UInt8)) : Int :=
  if theoC n L ≠ 0 then theoC n L else if showC n [] sh ≠ 0 then showC n [] sh else wtsC rd n [] ws
def printD (rd : List UInt8 → Bool) (n : Int) (L : List (List Int)) (sh : List Int) (ws : List (Int × List UInt8)) : List UInt8 × Int :=
  if checkD rd n L sh ws ≠ 0 then ([], checkD rd n L sh ws) else if 1048576 < (ptB n L sh ws).length then ([], 2) else (ptB n L sh ws, 0)

/-! ### What a valid file is -/
structure FOk (rd : List UInt8 → Bool) (n : Int) (L : List (List Int)) (sh : List Int) (ws : List (Int × List UInt8)) : Prop where
  n0 : 0 ≤ n
  n1 : n ≤ 128
  l : L.length ≤ 4096
  cls : ∀ c ∈ L, c.length ≤ 128 ∧ ∀ x ∈ c, validD x n = true
  shr : ∀ v ∈ sh, 1 ≤ v ∧ v ≤ n
  shn : sh.Nodup
  wsr : ∀ x ∈ ws, validD x.1 n = true ∧ rd x.2 = true
  wsn : (ws.map (·.1)).Nodup
theorem clsC_ok {n : Int} : ∀ {L : List (List Int)}, clsC n L = 0 ↔ ∀ c ∈ L, c.length ≤ 128 ∧ ∀ x ∈ c, validD x n = true
  | [] => by simp [clsC]
  | c :: L => by
    unfold clsC
    by_cases h1 : 128 < c.length
    · rw [if_pos h1]
      exact ⟨fun h => absurd h (by decide), fun h => by have := (h c (List.mem_cons_self ..)).1; omega⟩
    rw [if_neg h1]
    by_cases h2 : litBad n c = true
    · rw [if_pos h2]
      refine ⟨fun h => absurd h (by decide), fun h => ?_⟩
      obtain ⟨x, hx, hb⟩ := List.any_eq_true.1 h2
      rw [(h c (List.mem_cons_self ..)).2 x hx] at hb; cases hb
    · rw [if_neg h2, clsC_ok]
      refine ⟨fun h d hd => ?_, fun h d hd => h d (List.mem_cons_of_mem _ hd)⟩
      rcases List.mem_cons.1 hd with rfl | hd
      · refine ⟨by omega, fun x hx => ?_⟩
        cases hv : validD x n with
        | true => rfl
        | false => exact absurd (List.any_eq_true.2 ⟨x, hx, by rw [hv]; rfl⟩) h2
      · exact h d hd
theorem showC_ok {n : Int} : ∀ {l s : List Int}, showC n s l = 0 ↔ (∀ v ∈ l, 1 ≤ v ∧ v ≤ n) ∧ l.Nodup ∧ ∀ v ∈ l, v ∉ s
  | [], s => by simp [showC]
  | v :: l, s => by
    unfold showC
    by_cases h1 : v < 1 ∨ n < v
    · rw [if_pos h1]
      exact ⟨fun h => absurd h (by decide), fun h => by have := h.1 v (List.mem_cons_self ..); omega⟩
    rw [if_neg h1]
    by_cases h2 : v ∈ s
    · rw [if_pos h2]
      exact ⟨fun h => absurd h (by decide), fun h => absurd h2 (h.2.2 v (List.mem_cons_self ..))⟩
    · rw [if_neg h2, showC_ok]
      constructor
      · rintro ⟨a1, a2, a3⟩
        refine ⟨fun u hu => ?_, List.nodup_cons.2 ⟨fun hm => a3 v hm (by simp), a2⟩, fun u hu => ?_⟩
        · rcases List.mem_cons.1 hu with rfl | hu
          · omega
          · exact a1 u hu
        · rcases List.mem_cons.1 hu with rfl | hu
          · exact h2
          · exact fun hm => a3 u hu (by simp [hm])
      · rintro ⟨a1, a2, a3⟩
        refine ⟨fun u hu => a1 u (List.mem_cons_of_mem _ hu), (List.nodup_cons.1 a2).2, fun u hu hm => ?_⟩
        rcases List.mem_append.1 hm with hm | hm
        · exact a3 u (List.mem_cons_of_mem _ hu) hm
        · rw [List.mem_singleton] at hm
          subst hm
          exact (List.nodup_cons.1 a2).1 hu
theorem wtsC_ok {rd : List UInt8 → Bool} {n : Int} : ∀ {l : List (Int × List UInt8)} {s : List Int}, wtsC rd n s l = 0 ↔ (∀ x ∈ l, validD x.1 n = true ∧ rd x.2 = true) ∧ (l.map (·.1)).Nodup ∧ ∀ x ∈ l, x.1 ∉ s
  | [], s => by simp [wtsC]
  | v :: l, s => by
    unfold wtsC
    by_cases h1 : validD v.1 n = false
    · rw [if_pos h1]
      exact ⟨fun h => absurd h (by decide), fun h => by have := (h.1 v (List.mem_cons_self ..)).1; rw [h1] at this; cases this⟩
    rw [if_neg h1]
    by_cases h2 : v.1 ∈ s
    · rw [if_pos h2]
      exact ⟨fun h => absurd h (by decide), fun h => absurd h2 (h.2.2 v (List.mem_cons_self ..))⟩
    rw [if_neg h2]
    by_cases h3 : rd v.2 = false
    · rw [if_pos h3]
      exact ⟨fun h => absurd h (by decide), fun h => by have := (h.1 v (List.mem_cons_self ..)).2; rw [h3] at this; cases this⟩
    · rw [if_neg h3, wtsC_ok, List.map_cons, List.nodup_cons]
      constructor
      · rintro ⟨a1, a2, a3⟩
        refine ⟨fun u hu => ?_, ⟨fun hm => ?_, a2⟩, fun u hu => ?_⟩
        · rcases List.mem_cons.1 hu with rfl | hu
          · exact ⟨by simpa using h1, by simpa using h3⟩
          · exact a1 u hu
        · obtain ⟨u, hu, he⟩ := List.mem_map.1 hm
          exact a3 u hu (by simp [he])
        · rcases List.mem_cons.1 hu with rfl | hu
          · exact h2
          · exact fun hm => a3 u hu (by simp [hm])
      · rintro ⟨a1, a2, a3⟩
        refine ⟨fun u hu => a1 u (List.mem_cons_of_mem _ hu), a2.2, fun u hu hm => ?_⟩
        rcases List.mem_append.1 hm with hm | hm
        · exact a3 u (List.mem_cons_of_mem _ hu) hm
        · rw [List.mem_singleton] at hm
          exact a2.1 (List.mem_map.2 ⟨u, hu, hm⟩)
theorem checkD_ok {rd : List UInt8 → Bool} {n : Int} {L : List (List Int)} {sh : List Int} {ws : List (Int × List UInt8)} : checkD rd n L sh ws = 0 ↔ FOk rd n L sh ws := by
  have hT : theoC n L = 0 ↔ 0 ≤ n ∧ n ≤ 128 ∧ L.length ≤ 4096 ∧ ∀ c ∈ L, c.length ≤ 128 ∧ ∀ x ∈ c, validD x n = true := by
    unfold theoC
    by_cases h1 : n < 0 ∨ 128 < n
    · rw [if_pos h1]; exact ⟨fun h => absurd h (by decide), fun h => by omega⟩
    rw [if_neg h1]
    by_cases h2 : 4096 < L.length
    · rw [if_pos h2]; exact ⟨fun h => absurd h (by decide), fun h => by omega⟩
    rw [if_neg h2, clsC_ok]
    exact ⟨fun h => ⟨by omega, by omega, by omega, h⟩, fun h => h.2.2.2⟩
  unfold checkD
  by_cases h1 : theoC n L ≠ 0
  · rw [if_pos h1]
    exact ⟨fun h => absurd h h1, fun h => absurd (hT.2 ⟨h.n0, h.n1, h.l, h.cls⟩) h1⟩
  rw [if_neg h1]
  have h1' := hT.1 (Decidable.not_not.1 h1)
  by_cases h2 : showC n [] sh ≠ 0
  · rw [if_pos h2]
    exact ⟨fun h => absurd h h2, fun h => absurd (showC_ok.2 ⟨h.shr, h.shn, by simp⟩) h2⟩
  rw [if_neg h2, wtsC_ok]
  have h2' := showC_ok.1 (Decidable.not_not.1 h2)
  exact ⟨fun h => ⟨h1'.1, h1'.2.1, h1'.2.2.1, h1'.2.2.2, h2'.1, h2'.2.1, h.1, h.2.1⟩, fun h => ⟨h.wsr, h.wsn, by simp⟩⟩

theorem validD_in {x n : Int} (hn : n ≤ 128) (h : validD x n = true) : x ≠ 0 ∧ -128 ≤ x ∧ x ≤ 128 := by
  simp only [validD, Bool.and_eq_true, decide_eq_true_eq] at h
  omega

/-! ### It is read back -/
end Go.Proofs.YtajjgfiojlagmaaGreatDoor

/- What is read is a valid file; its sizes. Plain. -/
namespace Go.Proofs.YtajjgfiojlagmaaGreatDoor
open Go

structure StOk (rd : List UInt8 → Bool) (st : DS) : Prop where
  n0 : 0 ≤ st.n ∧ st.n ≤ 128
  nb : st.begun = false → st.L = [] ∧ st.sh = [] ∧ st.ws = [] ∧ st.cl = []
  m0 : st.begun = true → st.m ≤ 4096
  cls : ∀ c ∈ st.L, c.length ≤ 128 ∧ ∀ x ∈ c, validD x st.n = true
  cl : st.cl.length ≤ 128 ∧ ∀ x ∈ st.cl, validD x st.n = true
  shr : ∀ v ∈ st.sh, 1 ≤ v ∧ v ≤ st.n
  shn : st.sh.Nodup
  wsr : ∀ x ∈ st.ws, validD x.1 st.n = true ∧ rd x.2 = true
  wsn : (st.ws.map (·.1)).Nodup
section
variable {rd : List UInt8 → Bool}
theorem StOk.zero : StOk rd .zero := ⟨by simp [DS.zero], fun _ => ⟨rfl, rfl, rfl, rfl⟩, fun h => by simp [DS.zero] at h, by simp [DS.zero], by simp [DS.zero], by simp [DS.zero], by simp [DS.zero], by simp [DS.zero], by simp [DS.zero]⟩
theorem showGo_ok : ∀ (l : List Int) (st : DS), StOk rd st → st.begun = true → (∀ v ∈ l, 1 ≤ v) → StOk rd (showGo st l).1
  | [], st, h, _, _ => h
  | v :: l, st, h, hb, hl => by
    unfold showGo
    split
    · exact h
    split
    · exact h
    · rename_i h1 h2
      refine showGo_ok l _ ⟨h.n0, fun e => ?_, h.m0, h.cls, h.cl, fun u hu => ?_, ?_, h.wsr, h.wsn⟩ hb (fun u hu => hl u (List.mem_cons_of_mem _ hu))
      · simp only at e; rw [hb] at e; cases e
      · simp only at hu ⊢
        rcases List.mem_append.1 hu with hu | hu
        · exact h.shr u hu
        · rw [List.mem_singleton.1 hu]
          have := hl v (List.mem_cons_self ..)
          omega
      · simp only
        rw [List.nodup_append]
        exact ⟨h.shn, by simp, fun a ha b hb' e => by rw [List.mem_singleton] at hb'; subst hb'; subst e; exact h1 ha⟩
theorem litsGo_ok : ∀ (l : List Int) (st : DS), StOk rd st → st.begun = true → StOk rd (litsGo st l).1
  | [], st, h, _ => h
  | v :: l, st, h, hb => by
    unfold litsGo
    split
    · refine litsGo_ok l _ ⟨h.n0, fun e => ?_, h.m0, fun c hc => ?_, ⟨by simp, by simp⟩, h.shr, h.shn, h.wsr, h.wsn⟩ hb
      · simp only at e; rw [hb] at e; cases e
      · simp only at hc ⊢
        rcases List.mem_append.1 hc with hc | hc
        · exact h.cls c hc
        · rw [List.mem_singleton.1 hc]; exact h.cl
    split
    · exact h
    split
    · exact h
    · rename_i h1 h2 h3
      refine litsGo_ok l _ ⟨h.n0, fun e => ?_, h.m0, h.cls, ⟨?_, fun u hu => ?_⟩, h.shr, h.shn, h.wsr, h.wsn⟩ hb
      · simp only at e; rw [hb] at e; cases e
      · have := h.cl.1
        simp only [List.length_append, List.length_cons, List.length_nil]
        omega
      · simp only at hu ⊢
        rcases List.mem_append.1 hu with hu | hu
        · exact h.cl.2 u hu
        · rw [List.mem_singleton.1 hu]
          cases hv : validD v st.n with
          | true => rfl
          | false => exact absurd hv h2
theorem numZ_ge {w : List UInt8} : 0 ≤ numZ w := by unfold numZ; omega
theorem lineD_ok (st : DS) (W : List (List UInt8)) (h : StOk rd st) : StOk rd (lineD rd st W).1 := by
  unfold lineD
  split
  · exact h
  split
  · unfold problemD
    split
    · exact h
    split
    · split
      · exact h
      split
      · exact h
      · rename_i a b _ _ hb hab
        have hbf : st.begun = false := by
          cases hc : st.begun with
          | false => rfl
          | true => exact absurd hc hb
        obtain ⟨e1, e2, e3, e4⟩ := h.nb hbf
        refine ⟨⟨by simp only; omega, by simp only; omega⟩, (fun e => by cases e), fun _ => by simp only; omega, ?_, ?_, ?_, h.shn, ?_, h.wsn⟩
        · simp only; rw [e1]; simp
        · simp only; rw [e4]; simp
        · simp only; rw [e2]; simp
        · simp only; rw [e3]; simp
    · exact h
  split
  · unfold commentD
    split
    · exact h
    split
    · exact h
    rename_i hno
    have hb : st.begun = true := by
      cases hc : st.begun with
      | true => rfl
      | false => exact absurd (Or.inl hc) hno
    split
    · unfold showD
      split
      · exact h
      · rename_i hz
        refine showGo_ok _ st h hb fun v hv => ?_
        obtain ⟨x, hx, rfl⟩ := List.mem_map.1 hv
        have h0 := numZ_ge (w := x)
        have hne : numZ x ≠ 0 := fun e => hz (by rw [List.contains_iff_mem, ← e]; exact hv)
        omega
    · unfold weightD
      split
      · exact h
      split
      · exact h
      split
      · exact h
      split
      · exact h
      · rename_i h1 h2 h3 h4
        refine ⟨h.n0, fun e => ?_, h.m0, h.cls, h.cl, h.shr, h.shn, fun u hu => ?_, ?_⟩
        · simp only at e; rw [hb] at e; cases e
        · simp only at hu ⊢
          rcases List.mem_append.1 hu with hu | hu
          · exact h.wsr u hu
          · rw [List.mem_singleton.1 hu]
            exact ⟨by simpa using h4, by simpa using fun e => h2 (.inr e)⟩
        · simp only
          rw [List.map_append, List.nodup_append]
          exact ⟨h.wsn, by simp, fun a ha b hb' e => by
            simp only [List.map_cons, List.map_nil, List.mem_singleton] at hb'
            subst hb'
            subst e
            exact h3 ha⟩
  · unfold litsD
    split
    · exact h
    split
    · exact h
    · rename_i hb
      refine litsGo_ok _ st h ?_
      cases hc : st.begun with
      | true => rfl
      | false => exact absurd hc hb
theorem linesGo_ok : ∀ (l : List (List UInt8)) (st : DS) (i : Nat), StOk rd st → StOk rd (linesGo rd st i l).1
  | [], st, i, h => h
  | x :: l, st, i, h => by
    unfold linesGo
    split
    · exact lineD_ok st _ h
    · exact linesGo_ok l _ _ (lineD_ok st _ h)
theorem parseD_err {l : List UInt8} (h : (parseD rd l).2.2 ≠ 0) : (parseD rd l).1 = .zero := by
  unfold parseD at h ⊢
  split
  · rfl
  rename_i h1
  rw [if_neg h1] at h
  split
  · rfl
  rename_i h2
  rw [if_neg h2] at h
  split
  · rfl
  rename_i h3
  rw [if_neg h3] at h
  split
  · rfl
  rename_i h4
  rw [if_neg h4] at h
  exact absurd rfl h
theorem parseD_line {l : List UInt8} (h : (parseD rd l).2.2 = 0) : (parseD rd l).2.1 = 0 := by
  unfold parseD at h ⊢
  split
  · rfl
  rename_i h1
  rw [if_neg h1] at h
  split
  · rename_i h2; rw [if_pos h2] at h; exact absurd h h2
  rename_i h2
  rw [if_neg h2] at h
  split
  · rfl
  split <;> rfl
theorem linesGo_sz : ∀ (l : List (List UInt8)) (st : DS) (i : Nat), Sz st (linesGo rd st i l).1 (sumLen l)
  | [], st, i => (Sz.refl st 0).more (Nat.zero_le _)
  | x :: l, st, i => by
    have h1 := lineD_sz rd st (wordsD x)
    have h2 := words_len x
    rw [sumLen_cons]
    unfold linesGo
    split
    · exact h1.more (by omega)
    · exact Sz.step h1 (linesGo_sz l _ _) (by omega)
theorem parseD_sz (l : List UInt8) : (parseD rd l).1.sh.length ≤ l.length ∧ (parseD rd l).1.ws.length ≤ l.length ∧ (parseD rd l).1.L.length ≤ l.length ∧ ∀ c ∈ (parseD rd l).1.L, c.length ≤ 128 := by
  have hs := linesGo_ok (rd := rd) (pieces 10 l) .zero 0 StOk.zero
  have h1 := linesGo_sz (rd := rd) (pieces 10 l) .zero 0
  have h2 := (pieces_len 10 l).1
  have z : (DS.zero).sh.length ≤ l.length ∧ (DS.zero).ws.length ≤ l.length ∧ (DS.zero).L.length ≤ l.length ∧ ∀ c ∈ (DS.zero).L, c.length ≤ 128 := by simp [DS.zero]
  have y : (linesGo rd .zero 0 (pieces 10 l)).1.sh.length ≤ l.length ∧ (linesGo rd .zero 0 (pieces 10 l)).1.ws.length ≤ l.length ∧ (linesGo rd .zero 0 (pieces 10 l)).1.L.length ≤ l.length ∧ ∀ c ∈ (linesGo rd .zero 0 (pieces 10 l)).1.L, c.length ≤ 128 := by
    have a := h1.sh
    have b := h1.ws
    have c := h1.L
    have z1 : DS.zero.sh.length = 0 := rfl
    have z2 : DS.zero.ws.length = 0 := rfl
    have z3 : DS.zero.L.length = 0 := rfl
    exact ⟨by omega, by omega, by omega, fun x hx => (hs.cls x hx).1⟩
  unfold parseD
  split
  · exact z
  split
  · exact z
  split
  · exact z
  split
  · exact z
  · exact y
end
end Go.Proofs.YtajjgfiojlagmaaGreatDoor

/- How long what was read is when written. Plain. -/
namespace Go.Proofs.YtajjgfiojlagmaaGreatDoor
open Go

section
variable {rd : List UInt8 → Bool}
end
theorem showGo_ws : ∀ (l : List Int) (st : DS), (showGo st l).1.ws = st.ws
  | [], st => rfl
  | v :: l, st => by
    unfold showGo
    split
    · rfl
    split
    · rfl
    · rw [showGo_ws l]
theorem litsGo_ws : ∀ (l : List Int) (st : DS), (litsGo st l).1.ws = st.ws
  | [], st => rfl
  | v :: l, st => by
    unfold litsGo
    split
    · rw [litsGo_ws l]
    split
    · rfl
    split
    · rfl
    · rw [litsGo_ws l]
theorem lineD_vals {rd : List UInt8 → Bool} {N : Nat} {st : DS} {W : List (List UInt8)} (h : ∀ x ∈ st.ws, x.2.length ≤ N) (hW : ∀ u ∈ W, u.length ≤ N) : ∀ x ∈ (lineD rd st W).1.ws, x.2.length ≤ N := by
  unfold lineD
  split
  · exact h
  rename_i w0 r
  split
  · unfold problemD
    repeat' split
    all_goals exact h
  split
  · unfold commentD
    split
    · exact h
    split
    · exact h
    split
    · unfold showD
      split
      · exact h
      · rw [showGo_ws]; exact h
    · unfold weightD
      split
      · exact h
      split
      · exact h
      split
      · exact h
      split
      · exact h
      · intro x hx
        simp only at hx
        rcases List.mem_append.1 hx with hx | hx
        · exact h x hx
        · rw [List.mem_singleton.1 hx]
          simp only
          rw [List.getD_eq_getElem?_getD]
          cases hq : ((r.take (r.length - 1)).drop 2)[1]? with
          | none => simp
          | some v => exact hW v (List.mem_cons_of_mem _ (List.mem_of_mem_take (List.mem_of_mem_drop (List.mem_of_getElem? hq))))
  · unfold litsD
    split
    · exact h
    split
    · exact h
    · rw [litsGo_ws]; exact h
theorem linesGo_vals {rd : List UInt8 → Bool} {N : Nat} : ∀ (l : List (List UInt8)) (st : DS) (i : Nat), (∀ x ∈ st.ws, x.2.length ≤ N) → (∀ u ∈ l, u.length ≤ N) → ∀ x ∈ (linesGo rd st i l).1.ws, x.2.length ≤ N
  | [], st, i, h, _ => h
  | u :: l, st, i, h, hl => by
    have h1 : ∀ x ∈ (lineD rd st (wordsD u)).1.ws, x.2.length ≤ N := lineD_vals h fun v hv => Nat.le_trans (words_mem hv) (hl u (List.mem_cons_self ..))
    unfold linesGo
    split
    · exact h1
    · exact linesGo_vals l _ _ h1 fun v hv => hl v (List.mem_cons_of_mem _ hv)
theorem values_le {rd : List UInt8 → Bool} {l : List UInt8} : ∀ x ∈ (parseD rd l).1.ws, x.2.length ≤ l.length := by
  have h1 := linesGo_vals (rd := rd) (N := l.length) (pieces 10 l) .zero 0 (by simp [DS.zero]) (fun u hu => Nat.le_trans (mem_len hu) (pieces_len 10 l).1)
  have z : ∀ x ∈ DS.zero.ws, x.2.length ≤ l.length := by simp [DS.zero]
  unfold parseD
  split
  · exact z
  split
  · exact z
  split
  · exact z
  split
  · exact z
  · exact h1
end Go.Proofs.YtajjgfiojlagmaaGreatDoor
