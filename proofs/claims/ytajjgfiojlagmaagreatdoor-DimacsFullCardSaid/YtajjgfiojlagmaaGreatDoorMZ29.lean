/- Texts of this claim, joined: DP, DQ. -/
import Derived.Test.YtajjgfiojlagmaaGreatDoorMZ19
import Derived.Lib.ItoaMem

/- What is written in the format of chapter 06, and that it is read back. Plain. -/
namespace Go.Proofs.YtajjgfiojlagmaaGreatDoor
open Go

/-! ### Numerals -/
theorem e_ne (u : Nat) : Lib.decDigits u ≠ [] := by
  intro h
  have h1 := Lib.decDigits_length u
  have h2 := Lib.nDigits_pos u
  rw [h] at h1; simp at h1; omega
theorem e_ofNat (d : Nat) (h : d < 10) : (UInt8.ofNat (48 + d)).toNat = 48 + d := by
  rw [UInt8.toNat_ofNat']; omega
theorem e_dig (u : Nat) : ∀ c ∈ Lib.decDigits u, digD c = true := by
  induction u using Nat.strongRecOn with
  | _ u ih =>
    by_cases h : u < 10
    · rw [Lib.decDigits_one h]
      intro c hc
      rw [List.mem_singleton] at hc; subst hc
      unfold digD; rw [e_ofNat u h]; simp; omega
    · rw [Lib.decDigits, dif_neg h]
      intro c hc
      rcases List.mem_append.1 hc with hc | hc
      · exact ih (u / 10) (by omega) c hc
      · rw [List.mem_singleton] at hc; subst hc
        unfold digD; rw [e_ofNat (u % 10) (by omega)]; simp; omega
theorem e_val (u : Nat) : valD (Lib.decDigits u) = u := by
  induction u using Nat.strongRecOn with
  | _ u ih =>
    by_cases h : u < 10
    · rw [Lib.decDigits_one h]
      show 0 * 10 + ((UInt8.ofNat (48 + u)).toNat - 48) = u
      rw [e_ofNat u h]; omega
    · rw [Lib.decDigits, dif_neg h, valD_snoc, ih (u / 10) (by omega), e_ofNat (u % 10) (by omega)]; omega
theorem e_head (u : Nat) (h : 1 ≤ u) : (Lib.decDigits u).head? ≠ some 48 := by
  induction u using Nat.strongRecOn with
  | _ u ih =>
    by_cases h10 : u < 10
    · rw [Lib.decDigits_one h10]
      intro e
      have e1 : UInt8.ofNat (48 + u) = 48 := by simpa using e
      have e2 := congrArg UInt8.toNat e1
      rw [e_ofNat u h10] at e2
      have e3 : (48 : UInt8).toNat = 48 := rfl
      omega
    · rw [Lib.decDigits, dif_neg h10, List.head?_append]
      have h1 := ih (u / 10) (by omega) (by omega)
      cases hd : (Lib.decDigits (u / 10)).head? with
      | none => exact absurd (List.head?_eq_none_iff.1 hd) (e_ne _)
      | some c => rw [hd] at h1; simpa using h1
theorem e_digits : ∀ (k u : Nat), u < 10 ^ (k + 1) → Lib.nDigits u ≤ k + 1
  | 0, u, h => by rw [Lib.nDigits_small (by simpa using h)]; omega
  | k + 1, u, h => by
    by_cases h10 : u < 10
    · rw [Lib.nDigits_small h10]; omega
    · rw [Lib.nDigits_big h10]
      have := e_digits k (u / 10) (by rw [Nat.pow_succ] at h; omega)
      omega
theorem e_len {u : Nat} (k : Nat) (h : u < 10 ^ (k + 1)) : (Lib.decDigits u).length ≤ k + 1 := by
  rw [Lib.decDigits_length]
  exact e_digits k u h
theorem numD_dd {u : Nat} (h : u < 100000) : numD (Lib.decDigits u) = some u := by
  have h5 : (Lib.decDigits u).length ≤ 5 := e_len 4 (by have : (10 : Nat) ^ (4 + 1) = 100000 := by decide
                                                        omega)
  unfold numD
  rw [if_neg, e_val]
  rintro (h1 | h1 | h1 | h1)
  · exact e_ne _ h1
  · omega
  · by_cases h0 : 1 ≤ u
    · exact e_head u h0 h1.1
    · obtain rfl : u = 0 := by omega
      rw [Lib.decDigits_one (by omega)] at h1
      simp at h1
  · rw [List.all_eq_true.2 (e_dig u)] at h1; cases h1
theorem itoa_pos {z : Int} (h : 0 ≤ z) : Lib.itoa z = Lib.decDigits z.toNat := by unfold Lib.itoa; rw [if_neg (by omega)]
theorem itoa_min {z : Int} (h : z < 0) : Lib.itoa z = 45 :: Lib.decDigits z.natAbs := by unfold Lib.itoa; rw [if_pos h]
theorem numD_itoa {z : Int} (h0 : 0 ≤ z) (h : z < 100000) : numD (Lib.itoa z) = some z.toNat := by
  rw [itoa_pos h0, numD_dd (by omega)]
theorem numZ_itoa {z : Int} (h0 : 0 ≤ z) (h : z < 100000) : numZ (Lib.itoa z) = z := by
  unfold numZ; rw [numD_itoa h0 h]; simp; omega
theorem litD_itoa {z : Int} (h0 : -100000 < z) (h : z < 100000) : litD (Lib.itoa z) = z := by
  unfold litD
  by_cases hz : z < 0
  · rw [itoa_min hz, if_pos (by rfl), List.drop_one, List.tail_cons, numD_dd (by omega)]
    simp; omega
  · rw [if_neg, numD_itoa (by omega) h]
    · simp; omega
    · rw [itoa_pos (by omega)]
      cases hd : Lib.decDigits z.toNat with
      | nil => simp
      | cons c l =>
        have := e_dig z.toNat c (by rw [hd]; exact List.mem_cons_self ..)
        simp
        rintro rfl
        revert this; decide
theorem itoa_mem {z : Int} {c : UInt8} (h : c ∈ Lib.itoa z) : c = 45 ∨ digD c = true := by
  unfold Lib.itoa at h
  split at h
  · rcases List.mem_cons.1 h with h | h
    · exact .inl h
    · exact .inr (e_dig _ c h)
  · exact .inr (e_dig _ c h)
theorem itoa_not {z : Int} {c : UInt8} (h1 : c ≠ 45) (h2 : digD c = false) : c ∉ Lib.itoa z := fun h => by
  rcases itoa_mem h with h | h
  · exact h1 h
  · rw [h] at h2; cases h2
theorem itoa_nonempty (z : Int) : Lib.itoa z ≠ [] := by
  unfold Lib.itoa
  split
  · simp
  · exact e_ne _
theorem itoa_no32 (z : Int) : (32 : UInt8) ∉ Lib.itoa z := itoa_not (by decide) (by decide)
theorem itoa_no10 (z : Int) : (10 : UInt8) ∉ Lib.itoa z := itoa_not (by decide) (by decide)
theorem itoa_word {z : Int} {c : UInt8} (h1 : c ≠ 45) (h2 : digD c = false) : Lib.itoa z ≠ [c] := fun e => itoa_not (z := z) h1 h2 (by rw [e]; exact List.mem_cons_self ..)
theorem itoa_le6 {z : Int} (h0 : -100000 < z) (h : z < 100000) : (Lib.itoa z).length ≤ 6 := by
  have e5 : (10 : Nat) ^ (4 + 1) = 100000 := by decide
  by_cases hz : z < 0
  · rw [itoa_min hz, List.length_cons]
    have := e_len (u := z.natAbs) 4 (by omega)
    omega
  · rw [itoa_pos (by omega)]
    have := e_len (u := z.toNat) 4 (by omega)
    omega

/-! ### Pieces -/
theorem cut_at {c : UInt8} : ∀ (l r : List UInt8), c ∉ l → cutB c (l ++ c :: r) = l :: cutB c r
  | [], r, _ => by simp [cutB]
  | b :: l, r, h => by
    have hb : b ≠ c := fun e => h (by simp [e])
    have ih := cut_at l r (fun hm => h (List.mem_cons_of_mem _ hm))
    rw [List.cons_append, show cutB c (b :: (l ++ c :: r)) = (match cutB c (l ++ c :: r) with | p :: ps => (b :: p) :: ps | [] => [[b]]) from if_neg hb, ih]
theorem cut_alone {c : UInt8} : ∀ l : List UInt8, c ∉ l → cutB c l = [l]
  | [], _ => rfl
  | b :: l, h => by
    have hb : b ≠ c := fun e => h (by simp [e])
    have ih := cut_alone l (fun hm => h (List.mem_cons_of_mem _ hm))
    rw [show cutB c (b :: l) = (match cutB c l with | p :: ps => (b :: p) :: ps | [] => [[b]]) from if_neg hb, ih]
theorem pieces_at {c : UInt8} {l : List UInt8} (r : List UInt8) (h : c ∉ l) : pieces c (l ++ c :: r) = l :: pieces c r := by rw [pieces_cut, pieces_cut, cut_at l r h]
theorem pieces_alone {c : UInt8} {l : List UInt8} (h : c ∉ l) : pieces c l = [l] := by rw [pieces_cut, cut_alone l h]
theorem words_at {l : List UInt8} (r : List UInt8) (h : (32 : UInt8) ∉ l) (hn : l ≠ []) : wordsD (l ++ 32 :: r) = l :: wordsD r := by
  unfold wordsD
  rw [pieces_at r h, List.filter_cons, if_pos (by simpa using hn)]
theorem words_alone {l : List UInt8} (h : (32 : UInt8) ∉ l) (hn : l ≠ []) : wordsD l = [l] := by
  unfold wordsD
  rw [pieces_alone h, List.filter_cons, if_pos (by simpa using hn)]; rfl
theorem pieces_lines {c : UInt8} : ∀ ls : List (List UInt8), (∀ l ∈ ls, c ∉ l) → pieces c (ls.flatMap (· ++ [c])) = ls ++ [[]]
  | [], _ => by rw [pieces_cut]; rfl
  | l :: ls, h => by
    rw [List.flatMap_cons, List.append_assoc, List.cons_append, List.nil_append, pieces_at _ (h l (List.mem_cons_self ..)), pieces_lines ls (fun x hx => h x (List.mem_cons_of_mem _ hx))]; rfl

/-! ### What is written -/
def lnN (l : List Int) : List UInt8 := (l.flatMap fun x => Lib.itoa x ++ [32]) ++ [48]
def lnP (n m : Int) : List UInt8 := [112, 32, 99, 110, 102, 32] ++ (Lib.itoa n ++ 32 :: Lib.itoa m)
def lnS (sh : List Int) : List UInt8 := [99, 32, 112, 32, 115, 104, 111, 119, 32] ++ lnN sh
def lnW (x : Int × List UInt8) : List UInt8 := [99, 32, 112, 32, 119, 101, 105, 103, 104, 116, 32] ++ (Lib.itoa x.1 ++ 32 :: (x.2 ++ [32, 48]))
def linesP (n : Int) (L : List (List Int)) (sh : List Int) (ws : List (Int × List UInt8)) : List (List UInt8) := lnP n L.length :: ((if sh = [] then [] else [lnS sh]) ++ (ws.map lnW ++ L.map lnN))
def ptB (n : Int) (L : List (List Int)) (sh : List Int) (ws : List (Int × List UInt8)) : List UInt8 := (linesP n L sh ws).flatMap (· ++ [10])
def litBad (n : Int) (c : List Int) : Bool := c.any fun l => !validD l n
def clsC (n : Int) : List (List Int) → Int
  | [] => 0
  | c :: L => if 128 < c.length then 2 else if litBad n c = true then 1 else clsC n L
def showC (n : Int) : List Int → List Int → Int
  | _, [] => 0
  | s, v :: l => if v < 1 ∨ n < v then 6 else if v ∈ s then 4 else showC n (s ++ [v]) l
def wtsC (rd : List UInt8 → Bool) (n : Int) : List Int → List (Int × List UInt8) → Int
  | _, [] => 0
  | s, x :: l => if validD x.1 n = false then 6 else if x.1 ∈ s then 4 else if rd x.2 = false then 5 else wtsC rd n (s ++ [x.1]) l
def theoC (n : Int) (L : List (List Int)) : Int := if n < 0 ∨ 128 < n then 6 else if 4096 < L.length then 2 else clsC n L
def checkD (rd : List UInt8 → Bool) (n : Int) (L : List (List Int)) (sh : List Int) (ws : List (Int × List UInt8)) : Int :=
  if theoC n L ≠ 0 then theoC n L else if showC n [] sh ≠ 0 then showC n [] sh else wtsC rd n [] ws
def printD (rd : List UInt8 → Bool) (n : Int) (L : List (List Int)) (sh : List Int) (ws : List (Int × List UInt8)) : List UInt8 × Int :=
  if checkD rd n L sh ws ≠ 0 then ([], checkD rd n L sh ws) else if 1048576 < (ptB n L sh ws).length then ([], 2) else (ptB n L sh ws, 0)

/-! ### What a valid file is -/
structure FOk (rd : List UInt8 → Bool) (n : Int) (L : List (List Int)) (sh : List Int) (ws : List (Int × List UInt8)) : Prop where
  n0 : 0 ≤ n
  n1 : n ≤ 128
  l : L.length ≤ 4096
  cls : ∀ c ∈ L, c.length ≤ 128 ∧ ∀ x ∈ c, validD x n = true
  shr : ∀ v ∈ sh, 1 ≤ v ∧ v ≤ n
  shn : sh.Nodup
  wsr : ∀ x ∈ ws, validD x.1 n = true ∧ rd x.2 = true
  wsn : (ws.map (·.1)).Nodup
theorem clsC_ok {n : Int} : ∀ {L : List (List Int)}, clsC n L = 0 ↔ ∀ c ∈ L, c.length ≤ 128 ∧ ∀ x ∈ c, validD x n = true
  | [] => by simp [clsC]
  | c :: L => by
    unfold clsC
    by_cases h1 : 128 < c.length
    · rw [if_pos h1]
      exact ⟨fun h => absurd h (by decide), fun h => by have := (h c (List.mem_cons_self ..)).1; omega⟩
    rw [if_neg h1]
    by_cases h2 : litBad n c = true
    · rw [if_pos h2]
      refine ⟨fun h => absurd h (by decide), fun h => ?_⟩
      obtain ⟨x, hx, hb⟩ := List.any_eq_true.1 h2
      rw [(h c (List.mem_cons_self ..)).2 x hx] at hb; cases hb
    · rw [if_neg h2, clsC_ok]
      refine ⟨fun h d hd => ?_, fun h d hd => h d (List.mem_cons_of_mem _ hd)⟩
      rcases List.mem_cons.1 hd with rfl | hd
      · refine ⟨by omega, fun x hx => ?_⟩
        cases hv : validD x n with
        | true => rfl
        | false => exact absurd (List.any_eq_true.2 ⟨x, hx, by rw [hv]; rfl⟩) h2
      · exact h d hd
theorem showC_ok {n : Int} : ∀ {l s : List Int}, showC n s l = 0 ↔ (∀ v ∈ l, 1 ≤ v ∧ v ≤ n) ∧ l.Nodup ∧ ∀ v ∈ l, v ∉ s
  | [], s => by simp [showC]
  | v :: l, s => by
    unfold showC
    by_cases h1 : v < 1 ∨ n < v
    · rw [if_pos h1]
      exact ⟨fun h => absurd h (by decide), fun h => by have := h.1 v (List.mem_cons_self ..); omega⟩
    rw [if_neg h1]
    by_cases h2 : v ∈ s
    · rw [if_pos h2]
      exact ⟨fun h => absurd h (by decide), fun h => absurd h2 (h.2.2 v (List.mem_cons_self ..))⟩
    · rw [if_neg h2, showC_ok]
      constructor
      · rintro ⟨a1, a2, a3⟩
        refine ⟨fun u hu => ?_, List.nodup_cons.2 ⟨fun hm => a3 v hm (by simp), a2⟩, fun u hu => ?_⟩
        · rcases List.mem_cons.1 hu with rfl | hu
          · omega
          · exact a1 u hu
        · rcases List.mem_cons.1 hu with rfl | hu
          · exact h2
          · exact fun hm => a3 u hu (by simp [hm])
      · rintro ⟨a1, a2, a3⟩
        refine ⟨fun u hu => a1 u (List.mem_cons_of_mem _ hu), (List.nodup_cons.1 a2).2, fun u hu hm => ?_⟩
        rcases List.mem_append.1 hm with hm | hm
        · exact a3 u (List.mem_cons_of_mem _ hu) hm
        · rw [List.mem_singleton] at hm
          subst hm
          exact (List.nodup_cons.1 a2).1 hu
theorem wtsC_ok {rd : List UInt8 → Bool} {n : Int} : ∀ {l : List (Int × List UInt8)} {s : List Int}, wtsC rd n s l = 0 ↔ (∀ x ∈ l, validD x.1 n = true ∧ rd x.2 = true) ∧ (l.map (·.1)).Nodup ∧ ∀ x ∈ l, x.1 ∉ s
  | [], s => by simp [wtsC]
  | v :: l, s => by
    unfold wtsC
    by_cases h1 : validD v.1 n = false
    · rw [if_pos h1]
      exact ⟨fun h => absurd h (by decide), fun h => by have := (h.1 v (List.mem_cons_self ..)).1; rw [h1] at this; cases this⟩
    rw [if_neg h1]
    by_cases h2 : v.1 ∈ s
    · rw [if_pos h2]
      exact ⟨fun h => absurd h (by decide), fun h => absurd h2 (h.2.2 v (List.mem_cons_self ..))⟩
    rw [if_neg h2]
    by_cases h3 : rd v.2 = false
    · rw [if_pos h3]
      exact ⟨fun h => absurd h (by decide), fun h => by have := (h.1 v (List.mem_cons_self ..)).2; rw [h3] at this; cases this⟩
    · rw [if_neg h3, wtsC_ok, List.map_cons, List.nodup_cons]
      constructor
      · rintro ⟨a1, a2, a3⟩
        refine ⟨fun u hu => ?_, ⟨fun hm => ?_, a2⟩, fun u hu => ?_⟩
        · rcases List.mem_cons.1 hu with rfl | hu
          · exact ⟨by simpa using h1, by simpa using h3⟩
          · exact a1 u hu
        · obtain ⟨u, hu, he⟩ := List.mem_map.1 hm
          exact a3 u hu (by simp [he])
        · rcases List.mem_cons.1 hu with rfl | hu
          · exact h2
          · exact fun hm => a3 u hu (by simp [hm])
      · rintro ⟨a1, a2, a3⟩
        refine ⟨fun u hu => a1 u (List.mem_cons_of_mem _ hu), a2.2, fun u hu hm => ?_⟩
        rcases List.mem_append.1 hm with hm | hm
        · exact a3 u (List.mem_cons_of_mem _ hu) hm
        · rw [List.mem_singleton] at hm
          exact a2.1 (List.mem_map.2 ⟨u, hu, hm⟩)
theorem checkD_ok {rd : List UInt8 → Bool} {n : Int} {L : List (List Int)} {sh : List Int} {ws : List (Int × List UInt8)} : checkD rd n L sh ws = 0 ↔ FOk rd n L sh ws := by
  have hT : theoC n L = 0 ↔ 0 ≤ n ∧ n ≤ 128 ∧ L.length ≤ 4096 ∧ ∀ c ∈ L, c.length ≤ 128 ∧ ∀ x ∈ c, validD x n = true := by
    unfold theoC
    by_cases h1 : n < 0 ∨ 128 < n
    · rw [if_pos h1]; exact ⟨fun h => absurd h (by decide), fun h => by omega⟩
    rw [if_neg h1]
    by_cases h2 : 4096 < L.length
    · rw [if_pos h2]; exact ⟨fun h => absurd h (by decide), fun h => by omega⟩
    rw [if_neg h2, clsC_ok]
    exact ⟨fun h => ⟨by omega, by omega, by omega, h⟩, fun h => h.2.2.2⟩
  unfold checkD
  by_cases h1 : theoC n L ≠ 0
  · rw [if_pos h1]
    exact ⟨fun h => absurd h h1, fun h => absurd (hT.2 ⟨h.n0, h.n1, h.l, h.cls⟩) h1⟩
  rw [if_neg h1]
  have h1' := hT.1 (Decidable.not_not.1 h1)
  by_cases h2 : showC n [] sh ≠ 0
  · rw [if_pos h2]
    exact ⟨fun h => absurd h h2, fun h => absurd (showC_ok.2 ⟨h.shr, h.shn, by simp⟩) h2⟩
  rw [if_neg h2, wtsC_ok]
  have h2' := showC_ok.1 (Decidable.not_not.1 h2)
  exact ⟨fun h => ⟨h1'.1, h1'.2.1, h1'.2.2.1, h1'.2.2.2, h2'.1, h2'.2.1, h.1, h.2.1⟩, fun h => ⟨h.wsr, h.wsn, by simp⟩⟩

theorem validD_in {x n : Int} (hn : n ≤ 128) (h : validD x n = true) : x ≠ 0 ∧ -128 ≤ x ∧ x ≤ 128 := by
  simp only [validD, Bool.and_eq_true, decide_eq_true_eq] at h
  omega

/-! ### It is read back -/
theorem words_N : ∀ l : List Int, wordsD (lnN l) = l.map Lib.itoa ++ [[48]]
  | [] => by unfold lnN; exact words_alone (by decide) (by decide)
  | x :: l => by
    have ih := words_N l
    unfold lnN at ih ⊢
    rw [List.flatMap_cons, List.append_assoc, List.append_assoc, List.cons_append, List.nil_append, words_at _ (itoa_no32 x) (itoa_nonempty x), ih]; rfl
theorem no10_N : ∀ l : List Int, (10 : UInt8) ∉ lnN l := fun l h => by
  unfold lnN at h
  rcases List.mem_append.1 h with h | h
  · obtain ⟨x, _, h⟩ := List.mem_flatMap.1 h
    rcases List.mem_append.1 h with h | h
    · exact itoa_no10 x h
    · revert h; decide
  · revert h; decide
theorem litsGo_all : ∀ (c : List Int) (st : DS), (∀ x ∈ c, validD x st.n = true) → st.cl.length + c.length ≤ 128 → litsGo st (c ++ [0]) = ({ st with L := st.L ++ [st.cl ++ c], cl := [], op := false }, 0)
  | [], st, _, _ => by simp [litsGo]
  | x :: c, st, h, hl => by
    have hx := h x (List.mem_cons_self ..)
    have hx0 : x ≠ 0 := by
      simp only [validD, Bool.and_eq_true, decide_eq_true_eq] at hx
      exact hx.1
    rw [List.cons_append]
    unfold litsGo
    rw [if_neg hx0, if_neg (by rw [hx]; simp), if_neg (by rw [List.length_cons] at hl; omega), litsGo_all c { st with cl := st.cl ++ [x], op := true } (fun y hy => h y (List.mem_cons_of_mem _ hy)) (by rw [List.length_append]; simp only [List.length_cons, List.length_nil] at hl ⊢; omega)]
    simp
theorem line_N {rd : List UInt8 → Bool} {st : DS} {c : List Int} (hb : st.begun = true) (hn : st.n ≤ 128) (hc : st.cl = []) (ho : st.op = false) (h : c.length ≤ 128 ∧ ∀ x ∈ c, validD x st.n = true) : lineD rd st (wordsD (lnN c)) = ({ st with L := st.L ++ [c] }, 0) := by
  rw [words_N]
  have hlits : litsD st (c.map Lib.itoa ++ [[48]]) = ({ st with L := st.L ++ [c] }, 0) := by
    unfold litsD
    have hany : ((c.map Lib.itoa ++ [[48]]).any fun x => decide (litD x = 0) && decide (x ≠ [48])) = false := by
      rw [Bool.eq_false_iff]
      intro ha
      obtain ⟨u, hu, hb⟩ := List.any_eq_true.1 ha
      simp only [Bool.and_eq_true, decide_eq_true_eq] at hb
      rcases List.mem_append.1 hu with hu | hu
      · obtain ⟨x, hx, rfl⟩ := List.mem_map.1 hu
        have hv := validD_in hn (h.2 x hx)
        rw [litD_itoa (by omega) (by omega)] at hb
        exact hv.1 hb.1
      · exact hb.2 (List.mem_singleton.1 hu)
    have hmap : (c.map Lib.itoa ++ [[48]]).map litD = c ++ [0] := by
      rw [List.map_append, List.map_map]
      congr 1
      refine (List.map_congr_left fun x hx => ?_).trans (List.map_id _)
      have hv := validD_in hn (h.2 x hx)
      exact litD_itoa (by omega) (by omega)
    rw [hany, if_neg (by simp), hb, if_neg (by simp), hmap, litsGo_all c st h.2 (by rw [hc]; simpa using h.1)]
    cases st
    simp_all
  cases c with
  | nil => exact hlits
  | cons x c =>
    have h1 : Lib.itoa x ≠ [112] := itoa_word (by decide) (by decide)
    have h2 : Lib.itoa x ≠ [99] := itoa_word (by decide) (by decide)
    rw [List.map_cons, List.cons_append] at hlits ⊢
    unfold lineD
    simp only
    rw [if_neg h1, if_neg h2]
    exact hlits
theorem line_P {rd : List UInt8 → Bool} {n m : Int} (h0 : 0 ≤ n) (h1 : n ≤ 128) (h2 : 0 ≤ m) (h3 : m ≤ 4096) : lineD rd .zero (wordsD (lnP n m)) = ({ DS.zero with begun := true, n := n, m := m }, 0) := by
  have hw : wordsD (lnP n m) = [[112], [99, 110, 102], Lib.itoa n, Lib.itoa m] := by
    have e : lnP n m = [112] ++ 32 :: ([99, 110, 102] ++ 32 :: (Lib.itoa n ++ 32 :: Lib.itoa m)) := by simp [lnP]
    rw [e, words_at _ (by decide) (by decide), words_at _ (by decide) (by decide), words_at _ (itoa_no32 n) (itoa_nonempty n), words_alone (itoa_no32 m) (itoa_nonempty m)]
  rw [hw]
  unfold lineD
  simp only
  rw [if_pos trivial]
  unfold problemD
  rw [if_neg (by simp)]
  simp only [List.getD_cons_succ, List.getD_cons_zero]
  rw [numD_itoa h0 (by omega), numD_itoa h2 (by omega)]
  simp only
  rw [if_neg (by simp [DS.zero]), if_neg (by omega)]
  congr 1
  simp [DS.zero]
  omega
theorem comment_go {rd : List UInt8 → Bool} {st : DS} {r : List (List UInt8)} : lineD rd st ([99] :: r) = commentD rd st r := by
  unfold lineD
  simp only
  rw [if_neg (by decide), if_pos trivial]
theorem showGo_all : ∀ (l : List Int) (st : DS), (∀ v ∈ l, v ≤ st.n) → (∀ v ∈ l, v ∉ st.sh) → l.Nodup → showGo st l = ({ st with sh := st.sh ++ l }, 0)
  | [], st, _, _, _ => by simp [showGo]
  | v :: l, st, h1, h2, h3 => by
    unfold showGo
    rw [if_neg (h2 v (List.mem_cons_self ..)), if_neg (by have := h1 v (List.mem_cons_self ..); omega)]
    rw [showGo_all l { st with sh := st.sh ++ [v] } (fun u hu => h1 u (List.mem_cons_of_mem _ hu)) (fun u hu hm => by
      simp only at hm
      rcases List.mem_append.1 hm with hm | hm
      · exact h2 u (List.mem_cons_of_mem _ hu) hm
      · rw [List.mem_singleton] at hm
        subst hm
        exact (List.nodup_cons.1 h3).1 hu) (List.nodup_cons.1 h3).2]
    simp
theorem line_S {rd : List UInt8 → Bool} {st : DS} {sh : List Int} (hb : st.begun = true) (hn : st.n ≤ 128) (hs : st.sh = []) (h : ∀ v ∈ sh, 1 ≤ v ∧ v ≤ st.n) (hd : sh.Nodup) : lineD rd st (wordsD (lnS sh)) = ({ st with sh := sh }, 0) := by
  have hw : wordsD (lnS sh) = [99] :: [112] :: showW :: (sh.map Lib.itoa ++ [[48]]) := by
    have e : lnS sh = [99] ++ 32 :: ([112] ++ 32 :: ([115, 104, 111, 119] ++ 32 :: lnN sh)) := by simp [lnS]
    rw [e, words_at _ (by decide) (by decide), words_at _ (by decide) (by decide), words_at _ (by decide) (by decide), words_N]; rfl
  rw [hw, comment_go]
  have hlen : (([112] : List UInt8) :: showW :: (sh.map Lib.itoa ++ [[48]])).length = sh.length + 3 := by simp
  have hlast : (([112] : List UInt8) :: showW :: (sh.map Lib.itoa ++ [[48]])).getD ((([112] : List UInt8) :: showW :: (sh.map Lib.itoa ++ [[48]])).length - 1) [] = [48] := by
    rw [hlen, show sh.length + 3 - 1 = sh.length + 2 from rfl, List.getD_cons_succ, List.getD_cons_succ]
    simp [List.getD]
  have hmid : ((([112] : List UInt8) :: showW :: (sh.map Lib.itoa ++ [[48]])).take ((([112] : List UInt8) :: showW :: (sh.map Lib.itoa ++ [[48]])).length - 1)).drop 2 = sh.map Lib.itoa := by
    rw [hlen, show sh.length + 3 - 1 = sh.length + 1 + 1 from rfl, List.take_succ_cons, List.take_succ_cons, List.drop_succ_cons, List.drop_succ_cons, List.drop_zero, List.take_left' (by simp)]
  unfold commentD
  rw [if_neg (by
    rintro (h | h | h)
    · rw [hlen] at h; omega
    · exact h rfl
    · exact h.1 rfl), if_neg (by
    rintro (h | h | h)
    · rw [hb] at h; cases h
    · rw [hlen] at h; omega
    · exact h hlast), if_pos (show (([112] : List UInt8) :: showW :: (sh.map Lib.itoa ++ [[48]])).getD 1 [] = showW from rfl), hmid]
  have hmap : (sh.map Lib.itoa).map numZ = sh := by
    rw [List.map_map]
    refine (List.map_congr_left fun x hx => ?_).trans (List.map_id _)
    have := h x hx
    exact numZ_itoa (by omega) (by omega)
  unfold showD
  rw [hmap, if_neg (by
    intro hc
    have := h 0 (by simpa using hc)
    omega), showGo_all sh st (fun v hv => (h v hv).2) (by rw [hs]; simp) hd, hs]
  simp
theorem line_W {rd : List UInt8 → Bool} (hrd : ∀ v, rd v = true → v ≠ [] ∧ (32 : UInt8) ∉ v ∧ (10 : UInt8) ∉ v) {st : DS} {x : Int × List UInt8} (hb : st.begun = true) (hn : st.n ≤ 128) (h : validD x.1 st.n = true ∧ rd x.2 = true) (hd : x.1 ∉ st.ws.map (·.1)) : lineD rd st (wordsD (lnW x)) = ({ st with ws := st.ws ++ [x] }, 0) := by
  obtain ⟨l, v⟩ := x
  simp only at h hd
  have hv := hrd v h.2
  have hl := validD_in hn h.1
  have hw : wordsD (lnW (l, v)) = [99] :: [112] :: weightW :: [Lib.itoa l, v, [48]] := by
    have e : lnW (l, v) = [99] ++ 32 :: ([112] ++ 32 :: ([119, 101, 105, 103, 104, 116] ++ 32 :: (Lib.itoa l ++ 32 :: (v ++ 32 :: [48])))) := by simp [lnW]
    rw [e, words_at _ (by decide) (by decide), words_at _ (by decide) (by decide), words_at _ (by decide) (by decide), words_at _ (itoa_no32 l) (itoa_nonempty l), words_at _ hv.2.1 hv.1, words_alone (by decide) (by decide)]; rfl
  rw [hw, comment_go]
  unfold commentD
  rw [if_neg (by
    rintro (h | h | h)
    · revert h; simp
    · exact h rfl
    · exact h.2 rfl), if_neg (by
    rintro (h | h | h)
    · rw [hb] at h; cases h
    · revert h; simp
    · exact h rfl), if_neg (by simp only [List.getD_cons_succ, List.getD_cons_zero]; decide)]
  show weightD rd st [Lib.itoa l, v] = _
  unfold weightD
  rw [if_neg (by simp)]
  simp only [List.getD_cons_succ, List.getD_cons_zero]
  rw [litD_itoa (by omega) (by omega), if_neg (by
    rintro (h' | h')
    · exact hl.1 h'
    · rw [h.2] at h'; cases h'), if_neg hd, if_neg (by rw [h.1]; simp)]
theorem lines_step {rd : List UInt8 → Bool} {st st' : DS} {i : Nat} {x : List UInt8} {l : List (List UInt8)} (h : lineD rd st (wordsD x) = (st', 0)) : linesGo rd st i (x :: l) = linesGo rd st' (i + 1) l := by
  show (if (lineD rd st (wordsD x)).2 ≠ 0 then _ else _) = _
  rw [h]; rfl
theorem lines_W {rd : List UInt8 → Bool} (hrd : ∀ v, rd v = true → v ≠ [] ∧ (32 : UInt8) ∉ v ∧ (10 : UInt8) ∉ v) (r : List (List UInt8)) : ∀ (ws : List (Int × List UInt8)) (st : DS) (i : Nat), st.begun = true → st.n ≤ 128 → (∀ x ∈ ws, validD x.1 st.n = true ∧ rd x.2 = true) → ((st.ws ++ ws).map (·.1)).Nodup →
    ∃ j, linesGo rd st i (ws.map lnW ++ r) = linesGo rd { st with ws := st.ws ++ ws } j r
  | [], st, i, _, _, _, _ => ⟨i, by rw [List.append_nil]; rfl⟩
  | x :: ws, st, i, hb, hn, h, hd => by
    have hx : x.1 ∉ st.ws.map (·.1) := fun hm => by
      rw [List.map_append, List.map_cons] at hd
      exact (List.nodup_append.1 hd).2.2 _ hm _ (List.mem_cons_self ..) rfl
    obtain ⟨j, hj⟩ := lines_W hrd r ws { st with ws := st.ws ++ [x] } (i + 1) hb hn (fun y hy => h y (List.mem_cons_of_mem _ hy)) (by simpa using hd)
    refine ⟨j, ?_⟩
    rw [List.map_cons, List.cons_append, lines_step (line_W hrd hb hn (h x (List.mem_cons_self ..)) hx), hj]
    simp
theorem lines_N {rd : List UInt8 → Bool} (r : List (List UInt8)) : ∀ (L : List (List Int)) (st : DS) (i : Nat), st.begun = true → st.n ≤ 128 → st.cl = [] → st.op = false → (∀ c ∈ L, c.length ≤ 128 ∧ ∀ x ∈ c, validD x st.n = true) →
    ∃ j, linesGo rd st i (L.map lnN ++ r) = linesGo rd { st with L := st.L ++ L } j r
  | [], st, i, _, _, _, _, _ => ⟨i, by rw [List.append_nil]; rfl⟩
  | c :: L, st, i, hb, hn, hc, ho, h => by
    obtain ⟨j, hj⟩ := lines_N r L { st with L := st.L ++ [c] } (i + 1) hb hn hc ho (fun y hy => h y (List.mem_cons_of_mem _ hy))
    refine ⟨j, ?_⟩
    rw [List.map_cons, List.cons_append, lines_step (line_N hb hn hc ho (h c (List.mem_cons_self ..))), hj]
    simp
theorem no10_P (n m : Int) : (10 : UInt8) ∉ lnP n m := fun h => by
  unfold lnP at h
  simp only [List.mem_append, List.mem_cons] at h
  rcases h with h | h | h | h
  · revert h; decide
  · exact itoa_no10 n h
  · revert h; decide
  · exact itoa_no10 m h
theorem parse_print {rd : List UInt8 → Bool} (hrd : ∀ v, rd v = true → v ≠ [] ∧ (32 : UInt8) ∉ v ∧ (10 : UInt8) ∉ v) {n : Int} {L : List (List Int)} {sh : List Int} {ws : List (Int × List UInt8)} (h : FOk rd n L sh ws) (hl : (ptB n L sh ws).length ≤ 1048576) :
    parseD rd (ptB n L sh ws) = (⟨n, L, sh, ws, true, L.length, [], false⟩, 0, 0) := by
  have h10 : ∀ l ∈ linesP n L sh ws, (10 : UInt8) ∉ l := fun l hm => by
    unfold linesP at hm
    rcases List.mem_cons.1 hm with rfl | hm
    · exact no10_P _ _
    rcases List.mem_append.1 hm with hm | hm
    · split at hm
      · cases hm
      · rw [List.mem_singleton.1 hm]
        intro h'
        unfold lnS at h'
        rcases List.mem_append.1 h' with h' | h'
        · revert h'; decide
        · exact no10_N _ h'
    rcases List.mem_append.1 hm with hm | hm
    · obtain ⟨x, hx, rfl⟩ := List.mem_map.1 hm
      intro h'
      unfold lnW at h'
      simp only [List.mem_append, List.mem_cons] at h'
      rcases h' with h' | h' | h' | h' | h'
      · revert h'; decide
      · exact itoa_no10 _ h'
      · revert h'; decide
      · exact (hrd _ (h.wsr x hx).2).2.2 h'
      · revert h'; decide
    · obtain ⟨x, hx, rfl⟩ := List.mem_map.1 hm
      exact no10_N _
  have hgo : linesGo rd .zero 0 (pieces 10 (ptB n L sh ws)) = (⟨n, L, sh, ws, true, L.length, [], false⟩, 0, 0) := by
    unfold ptB
    rw [pieces_lines _ h10]
    unfold linesP
    rw [List.cons_append, lines_step (line_P h.n0 h.n1 (by omega) (by have := h.l; omega))]
    have hS : ∃ j, linesGo rd { DS.zero with begun := true, n := n, m := (L.length : Int) } (0 + 1) ((if sh = [] then [] else [lnS sh]) ++ (ws.map lnW ++ L.map lnN) ++ [[]]) = linesGo rd { DS.zero with begun := true, n := n, m := (L.length : Int), sh := sh } j (ws.map lnW ++ (L.map lnN ++ [[]])) := by
      by_cases hs : sh = []
      · subst hs
        refine ⟨0 + 1, ?_⟩
        rw [if_pos rfl, List.nil_append, List.append_assoc]
        rfl
      · refine ⟨0 + 1 + 1, ?_⟩
        rw [if_neg hs, List.append_assoc, List.append_assoc, List.cons_append, List.nil_append, lines_step (line_S (st := { DS.zero with begun := true, n := n, m := (L.length : Int) }) (by rfl) h.n1 rfl h.shr h.shn)]
    obtain ⟨j, hj⟩ := hS
    rw [hj]
    obtain ⟨j2, hj2⟩ := lines_W hrd (L.map lnN ++ [[]]) ws { DS.zero with begun := true, n := n, m := (L.length : Int), sh := sh } j rfl h.n1 h.wsr (by simpa [DS.zero] using h.wsn)
    rw [hj2]
    obtain ⟨j3, hj3⟩ := lines_N (rd := rd) [[]] L { DS.zero with begun := true, n := n, m := (L.length : Int), sh := sh, ws := DS.zero.ws ++ ws } j2 rfl h.n1 rfl rfl h.cls
    refine (show _ = _ from hj3).trans ?_
    have hE : wordsD ([] : List UInt8) = [] := by unfold wordsD; rw [pieces_cut]; rfl
    rw [lines_step (st' := { DS.zero with begun := true, n := n, m := (L.length : Int), sh := sh, ws := DS.zero.ws ++ ws, L := DS.zero.L ++ L }) (by rw [hE]; rfl)]
    simp [linesGo, DS.zero]
  unfold parseD
  rw [if_neg (by omega), hgo]
  simp
end Go.Proofs.YtajjgfiojlagmaaGreatDoor

/- What is read is a valid file; its sizes. Plain. -/
namespace Go.Proofs.YtajjgfiojlagmaaGreatDoor
open Go

structure StOk (rd : List UInt8 → Bool) (st : DS) : Prop where
  n0 : 0 ≤ st.n ∧ st.n ≤ 128
  nb : st.begun = false → st.L = [] ∧ st.sh = [] ∧ st.ws = [] ∧ st.cl = []
  m0 : st.begun = true → st.m ≤ 4096
  cls : ∀ c ∈ st.L, c.length ≤ 128 ∧ ∀ x ∈ c, validD x st.n = true
  cl : st.cl.length ≤ 128 ∧ ∀ x ∈ st.cl, validD x st.n = true
  shr : ∀ v ∈ st.sh, 1 ≤ v ∧ v ≤ st.n
  shn : st.sh.Nodup
  wsr : ∀ x ∈ st.ws, validD x.1 st.n = true ∧ rd x.2 = true
  wsn : (st.ws.map (·.1)).Nodup
section
variable {rd : List UInt8 → Bool}
theorem StOk.zero : StOk rd .zero := ⟨by simp [DS.zero], fun _ => ⟨rfl, rfl, rfl, rfl⟩, fun h => by simp [DS.zero] at h, by simp [DS.zero], by simp [DS.zero], by simp [DS.zero], by simp [DS.zero], by simp [DS.zero], by simp [DS.zero]⟩
end
end Go.Proofs.YtajjgfiojlagmaaGreatDoor
